/- Walks: form, Print, Check of messages. Plain: numbers in digits, read and written. No walk. Walks: vernacularref19.special, double, Dress: a text in its quotes. Walks: vernacularref02's kinds of bytes, vernacularref15's numbers and words, vernacularref19's names, keys, styles, types. Walks: vernacularref19.Trim, isStyle, isKey, Find, Digits. Walks: vernacularref19.Form: parts in their one form. Walks: plain, right, form, Print, Check of messages at any parts; vernacularref19.Check's plain side. Plain: parts that may be are not of more bulk than twice their one form. No walk. Walks: code.Compile. Plain: what is read of a code: its texts, its instructions, its message; bounds of these. No walk. Plain: a message read of few bytes is small. No walk. Plain: how many instructions are gone through; where an instruction stands. No walk. Walks: deep and cut of the law of code. Plain: how deep a message is told matters not, once it is deep enough; a code is read back. No walk. Plain: names of two lists, one behind the other; sameness of parts. No walk. Walks: message.Same, with slices.EqualFunc at parts and at cases, and its closures. Walks: message.Same: its closure on two parts; slices.EqualFunc at parts. Walks: read, Lift, Verify of code. Walks: code.Bound. Walks: wakes of the law of code. The law CodeThere, walked. Plain: parts that are the same are one; a message's code is short. No walk. Bytes: append at a step of a region that draws its order; places; a byte turned. No walk. -/
import Derived.Test.YtmfoiceofhcicaaGreatDoorXKP
import Derived.Test.YtmfoiceofhcicaaGreatDoorMR
import Derived.Test.YtmfoiceofhcicaaGreatDoorTR
import Derived.Test.YtmfoiceofhcicaaGreatDoorMC
import Derived.Test.YtmfoiceofhcicaaGreatDoorPB
import Derived.Lib.ItoaMem
import Derived.Lib.ItoaLen
import Derived.Test.YtmfoiceofhcicaaGreatDoorXKA
import Derived.Test.YtmfoiceofhcicaaGreatDoorKZ
import Derived.Maps.OwnOps
import Derived.Test.YtmfoiceofhcicaaGreatDoorNA
import Derived.Test.YtmfoiceofhcicaaGreatDoorCA
import Derived.Test.YtmfoiceofhcicaaGreatDoorKH
namespace Go.Proofs.YtmfoiceofhcicaaGreatDoor
open Go.RowKit

def formV (r : List UInt8 × Int) : Value := .tuple #[.string ⟨r.1.toArray⟩, .int .i64 r.2]
set_option maxRecDepth 100000 in
set_option maxHeartbeats 8000000 in
/-- form. -/
theorem form_any (n : Nat) (l : List PT) (S : Nat → Prop) (v : Value) (B : Nat) (w : World) (hE : EnvM B w) (hh : Lies n S w v l) (hS : ∀ x, S x → x < w.heap.size) (hq : allF PlainOK n l) (ho : allO offOK n l) (hb : bulkF n l ≤ 900000000) :
    Calls Tryz.prog 33 #[v] w fun e w' => e = .returned (formV (formF n l)) ∧ Keep [] w w' := by
  obtain ⟨A, m, cap, rfl⟩ := hh.form
  have HR : Hid (Calls Tryz.prog 54 #[.slice A m cap, .bool false] w fun e w' => e = .returned (.bool (rightF n l false)) ∧ Keep [] w w') := right_any n l false S _ B w hE hh hq (by omega)
  obtain ⟨f, hf⟩ : ∃ f, formF n l = f := ⟨_, rfl⟩
  have HF : Hid (formF n l = f) := hf
  rw [hf]
  cases hr : rightF n l false with
  | false =>
    rw [hr] at HR
    have hf1 : f = ([], 2) := by rw [← hf]; unfold formF; rw [if_pos hr]
    subst hf1
    clear hE hh hq ho hb hf HF hr hS
    go_enter Tryz.func33, Tryz.ntmps33
    go_wp2_with (go_at_call 54; refine HR.out.mono ?_; rintro e w1 ⟨rfl, hk1⟩; have HK1 := Lib.hid hk1; clear hk1)
    exact bodyPost_ret (v := formV ([], 2)) (by simp [results, Tryz.results33, go_sem, formV]) rfl ⟨rfl, HK1.out⟩
  | true =>
    rw [hr] at HR
    have hf1 : f = if 1024 < sizeF n l ∨ 8 < depthF n l ∨ 4096 < (writeF n l false).length then ([], 3) else (writeF n l false, 0) := by rw [← hf]; unfold formF; rw [if_neg (by rw [hr]; decide)]
    have HF1 := Lib.hid hf1
    have HL := Lib.hid hh
    have HE := Lib.hid hE
    have HS := Lib.hid hS
    have HO := Lib.hid ho
    have HSZ : ∀ W, Lies n S W (.slice A m cap) l → Hid (Calls Tryz.prog 56 #[.slice A m cap] W fun e w' => e = .returned (.int .i64 (sizeF n l)) ∧ Keep [] W w') := fun W hW => size_any n l S _ W hW (by omega)
    have HDP : ∀ W, Lies n S W (.slice A m cap) l → Hid (Calls Tryz.prog 57 #[.slice A m cap] W fun e w' => e = .returned (.int .i64 (depthF n l)) ∧ Keep [] W w') := fun W hW => depth_any n l S _ W hW (by omega)
    have HWR : ∀ b W, EnvM B W → B ≤ b → Lies n S W (.slice A m cap) l → (∀ x, S x → x < b) → Bld b [] W → Hid (Calls Tryz.prog 55 #[.pointer (some ⟨b, 0, none⟩), .slice A m cap, .bool false] W (WPost b [] (writeF n l false) W)) := fun b W h1 h2 h3 h4 h5 => write_any n l false S _ b [] B W h1 h2 h3 h4 h5 ho (by omega) (by simp; omega)
    have hwl := allO_len n l false ho
    have hnw : (writeF n l false).length ≤ 90000000000 := by omega
    clear hE hh hq ho hb hf HF hr hS hf1 hwl
    generalize sizeF n l = sz at *
    generalize depthF n l = dp at *
    generalize writeF n l false = out at *
    go_enter Tryz.func33, Tryz.ntmps33
    go_wp2_with (first
      | (go_at_call 54; refine HR.out.mono ?_; rintro e w1 ⟨rfl, hk1⟩; have HK1 := Lib.hid hk1; have HB1 := Lib.hid hk1.toBelow; have HL1 := Lib.hid (HL.out.keep hk1 (by simp)); have HE1 := Lib.hid (HE.out.keep hk1 (by simp)); clear hk1)
      | (go_at_call 55; refine (HWR w1.heap.size (w1.alloc (.cells #[.pointer none, .slice none 0 0] 116)) (HE1.out.keep ((Keep.refl [] w1).alloc _) (by simp)) HE1.out.env.le (HL1.out.keep (bs := []) ((Keep.refl [] w1).alloc _) (by simp)) (fun x hx => Nat.lt_of_lt_of_le (HS.out x hx) HB1.out.size) (Bld.new' w1 _ rfl)).out.mono ?_; rintro e w2 ⟨rfl, hb2, hk2⟩; have hz1 := HB1.out.size; have HB2 := Lib.hid (HB1.out.trans ((((Keep.refl [] w1).alloc _).toBelow.trans (hk2.below.mono (Nat.le_refl _))).mono hz1)); have HBB2 := Lib.hid hb2; have HL2 := Lib.hid (HL1.out.keep (bs := []) (Keep.of_below (((Keep.refl [] w1).alloc _).toBelow.trans (hk2.below.mono (Nat.le_refl _)))) (by simp)); clear hb2 hk2)
      | (go_at_call 56; refine (HSZ _ HL2.out).out.mono ?_; rintro e w3 ⟨rfl, hk3⟩; have HL3 := Lib.hid (HL2.out.keep hk3 (by simp)); have HBB3 := Lib.hid (HBB2.out.keep_nil hk3); have HB3 := Lib.hid (HB2.out.trans (hk3.toBelow.mono HB2.out.size)); clear hk3)
      | (go_at_call 57; refine (HDP _ HL3.out).out.mono ?_; rintro e w4 ⟨rfl, hk4⟩; have HBB4 := Lib.hid (HBB3.out.keep_nil hk4); have HB4 := Lib.hid (HB3.out.trans (hk4.toBelow.mono HB3.out.size)); clear hk4)
      | (go_at_call 58; refine (bld_len HBB4.out).mono ?_; rintro e w5 ⟨rfl, hw5⟩; subst hw5)
      | (go_at_call 59; refine (bld_str HBB4.out).mono ?_; rintro e w6 ⟨rfl, _, hb6, _⟩; have HB6 := Lib.hid (HB4.out.trans (hb6.mono (by have := HB1.out.size; omega))); clear hb6))
    all_goals
      first
        | (have hf : f = ([], 3) := by (rw [HF1.out, if_pos (by omega)])
           subst hf
           refine bodyPost_ret (v := formV ([], 3)) (by simp [results, Tryz.results33, go_sem, formV]) rfl ⟨rfl, ?_⟩
           first | exact Keep.of_below HB4.out | exact Keep.of_below HB3.out)
        | (have hf : f = (out, 0) := by (rw [HF1.out, if_neg (by omega)])
           subst hf
           exact bodyPost_ret (v := formV (out, 0)) (by simp [results, Tryz.results33, go_sem, formV]) rfl ⟨rfl, Keep.of_below HB6.out⟩)
end Go.Proofs.YtmfoiceofhcicaaGreatDoor

namespace Go.Proofs.YtmfoiceofhcicaaGreatDoor
open Go.RowKit

/-! ### names -/
end Go.Proofs.YtmfoiceofhcicaaGreatDoor

namespace Go.Proofs.YtmfoiceofhcicaaGreatDoor
open Go.RowKit

end Go.Proofs.YtmfoiceofhcicaaGreatDoor

namespace Go.Proofs.YtmfoiceofhcicaaGreatDoor
open Go.RowKit

/-! ### names -/
/-! ### numbers and words -/
end Go.Proofs.YtmfoiceofhcicaaGreatDoor

namespace Go.Proofs.YtmfoiceofhcicaaGreatDoor
open Go.RowKit

end Go.Proofs.YtmfoiceofhcicaaGreatDoor

namespace Go.Proofs.YtmfoiceofhcicaaGreatDoor
open Go.RowKit

def kindOK (p : PT) : Prop := offOK p ∧ 1 ≤ p.k ∧ p.k ≤ 6
theorem allK_off : ∀ (n : Nat) (l : List PT), allO kindOK n l → allO offOK n l
  | 0, _, _ => trivial
  | n + 1, _, h => fun p hp => ⟨(h p hp).1.1, fun c hc => allK_off n c.2 ((h p hp).2 c hc)⟩
end Go.Proofs.YtmfoiceofhcicaaGreatDoor

namespace Go.Proofs.YtmfoiceofhcicaaGreatDoor
open Go.RowKit

theorem plain_all (p : PT) (h1 : p.tx.size ≤ 1000000000) (h2 : p.nm.size ≤ 1000000000) (h3 : p.st.size ≤ 1000000000) : PlainOK p := fun h A c B w hE => by
  by_cases hk1 : p.k = 1
  · exact plain_1 p h A c w hk1 h1
  · by_cases hk2 : p.k = 2
    · exact plain_2 p h A c w hk2
    · by_cases hk3 : p.k = 3
      · by_cases ht : p.ty.size = 0
        · exact plain_3 p h A c w hk3 ht h2
        · exact plain_3t p h A c w hE hk3 ht h2 h3
      · by_cases hk4 : p.k = 4 ∨ p.k = 5 ∨ p.k = 6
        · exact plain_c p h A c w p.k rfl hk4 h2
        · exact plain_x p h A c w (by omega)
theorem allF_bulk : ∀ (n : Nat) (l : List PT), bulkF n l ≤ 1000000000 → allF PlainOK n l
  | 0, _, _ => trivial
  | n + 1, l, h => fun p hp => by
    obtain ⟨i, hi⟩ := List.getElem?_of_mem hp
    have hb := bulkL_at (bulkF n) l i p hi
    have hL : bulkL (bulkF n) l ≤ 1000000000 := h
    refine ⟨plain_all p (by omega) (by omega) (by omega), fun c hc => ?_⟩
    obtain ⟨j, hj⟩ := List.getElem?_of_mem hc
    have hc2 := bulkC_at (bulkF n) p.cs j c hj
    exact allF_bulk n c.2 (by omega)
/-- Parts that may be have kinds and offsets. -/
theorem plain_kind {p : PT} {h : Bool} (hp : plainB p h = true) : kindOK p := by
  unfold plainB at hp
  split at hp
  · simp only [Bool.and_eq_true, decide_eq_true_eq] at hp
    exact ⟨⟨by omega, by omega⟩, by omega, by omega⟩
  · split at hp
    · simp only [Bool.and_eq_true, decide_eq_true_eq] at hp
      exact ⟨⟨by omega, by omega⟩, by omega, by omega⟩
    · split at hp
      · simp only [Bool.and_eq_true, decide_eq_true_eq] at hp
        exact ⟨⟨by omega, by omega⟩, by omega, by omega⟩
      · split at hp
        · simp only [Bool.and_eq_true, decide_eq_true_eq] at hp
          exact ⟨⟨by omega, by omega⟩, by omega, by omega⟩
        · cases hp
theorem caseR_all {R : List PT → Bool} {k : Int} : ∀ (cs : List CT) (ks : List ByteArray), caseR R k ks cs = true → ∀ c ∈ cs, R c.2 = true
  | [], _, _, c, hc => by cases hc
  | d :: cs, ks, h, c, hc => by
    rw [caseR, Bool.and_eq_true, Bool.and_eq_true, Bool.and_eq_true] at h
    rcases List.mem_cons.1 hc with rfl | hc
    · exact h.1.2
    · exact caseR_all cs _ h.2 c hc
theorem right_kinds : ∀ (n : Nat) (l : List PT) (h : Bool), rightF n l h = true → allO kindOK n l
  | 0, _, _, _ => trivial
  | n + 1, l, h, hr => by
    have key : ∀ (l : List PT) (q : Int), rightL (rightF n) h q l = true → ∀ p ∈ l, kindOK p ∧ ∀ c ∈ p.cs, allO kindOK n c.2 := fun l => by
      induction l with
      | nil => intro q _ p hp; cases hp
      | cons d l ih =>
        intro q hr p hp
        rw [rightL, Bool.and_eq_true, Bool.and_eq_true, Bool.and_eq_true, Bool.and_eq_true] at hr
        rcases List.mem_cons.1 hp with rfl | hp
        · exact ⟨plain_kind hr.1.1.1.1, fun c hc => right_kinds n c.2 _ (caseR_all p.cs _ hr.1.1.2 c hc)⟩
        · exact ih _ hr.2 p hp
    exact key l 0 hr
set_option maxRecDepth 100000 in
set_option maxHeartbeats 4000000 in
/-- form, at any parts. -/
theorem form_all (n : Nat) (l : List PT) (S : Nat → Prop) (v : Value) (B : Nat) (w : World) (hE : EnvM B w) (hh : Lies n S w v l) (hS : ∀ x, S x → x < w.heap.size) (hb : bulkF n l ≤ 900000000) :
    Calls Tryz.prog 33 #[v] w fun e w' => e = .returned (formV (formF n l)) ∧ Keep [] w w' := by
  have hq := allF_bulk n l (by omega)
  cases hr : rightF n l false with
  | true => exact form_any n l S v B w hE hh hS hq (allK_off n l (right_kinds n l false hr)) hb
  | false =>
    obtain ⟨A, m, cap, rfl⟩ := hh.form
    have HR : Hid (Calls Tryz.prog 54 #[.slice A m cap, .bool false] w fun e w' => e = .returned (.bool (rightF n l false)) ∧ Keep [] w w') := right_any n l false S _ B w hE hh hq (by omega)
    rw [hr] at HR
    have hf1 : formF n l = ([], 2) := by unfold formF; rw [if_pos hr]
    rw [hf1]
    clear hE hh hq hb hr hS hf1
    go_enter Tryz.func33, Tryz.ntmps33
    go_wp2_with (go_at_call 54; refine HR.out.mono ?_; rintro e w1 ⟨rfl, hk1⟩; have HK1 := Lib.hid hk1; clear hk1)
    exact bodyPost_ret (v := formV ([], 2)) (by simp [results, Tryz.results33, go_sem, formV]) rfl ⟨rfl, HK1.out⟩
set_option maxRecDepth 100000 in
/-- Check, at any parts. -/
theorem mcheck_all (n : Nat) (l : List PT) (S : Nat → Prop) (v : Value) (B : Nat) (w : World) (hE : EnvM B w) (hh : Lies n S w v l) (hS : ∀ x, S x → x < w.heap.size) (hb : bulkF n l ≤ 900000000) :
    Calls Tryz.prog 15 #[v] w fun e w' => e = .returned (.int .i64 (formF n l).2) ∧ Keep [] w w' := by
  have HF := Lib.hid (form_all n l S v B w hE hh hS hb)
  clear hE hh hS hb
  generalize formF n l = f at *
  obtain ⟨r, e⟩ := f
  unfold formV at HF
  go_enter Tryz.func15, Tryz.ntmps15
  go_wp2_with (go_at_call 33; refine HF.out.mono ?_; rintro e w1 ⟨rfl, hk1⟩; have HK1 := Lib.hid hk1; clear hk1)
  go_ret
  exact ⟨rfl, HK1.out⟩
end Go.Proofs.YtmfoiceofhcicaaGreatDoor

namespace Go.Proofs.YtmfoiceofhcicaaGreatDoor
open Go.RowKit

theorem dbl_ge : ∀ l : List UInt8, l.length ≤ (dbl l).length
  | [] => Nat.le_refl _
  | b :: l => by
    have := dbl_ge l
    have e : dbl (b :: l) = (if b = 39 then [39, 39] else [b]) ++ dbl l := List.flatMap_cons
    rw [e, List.length_append, List.length_cons]
    split <;> simp <;> omega
theorem dressL_ge (h : Bool) (l : List UInt8) : l.length ≤ (dressL h l).length := by
  unfold dressL
  split
  · generalize l.findIdx (specB h) = f
    generalize lastN (specB h) l = k
    have h1 := dbl_ge (l.take f)
    have h2 := dbl_ge ((l.take k).drop f)
    have h3 := dbl_ge (l.drop k)
    simp only [List.length_append, List.length_take, List.length_drop, List.length_cons, List.length_nil] at h1 h2 h3 ⊢
    omega
  · exact dbl_ge l
theorem noB_zero {t : ByteArray} (h : noB t = true) : t.size = 0 := of_decide_eq_true h
theorem noB_len (t : ByteArray) (X : List UInt8) : t.size ≤ (if noB t then [] else X ++ t.data.toList : List UInt8).length := by
  split
  · rename_i h
    rw [noB_zero h]
    exact Nat.zero_le _
  · rw [List.length_append]
    have : t.data.toList.length = t.size := by simp
    omega
theorem bulkC_write {K : List PT → Nat} {W : List PT → List UInt8} {R : List PT → Bool} {k : Int} (hI : ∀ m, R m = true → K m ≤ 2 * (W m).length) : ∀ (cs : List CT) (ks : List ByteArray) (b : Bool), caseR R k ks cs = true → bulkC K cs ≤ 2 * (caseW W b cs).length
  | [], _, _, _ => Nat.zero_le _
  | c :: cs, ks, b, h => by
    simp only [caseR, Bool.and_eq_true] at h
    have h1 := bulkC_write hI cs _ true h.2
    have h2 := hI c.2 h.1.2
    have h3 : c.1.data.toList.length = c.1.size := by simp
    simp only [bulkC, caseW, List.length_append, List.length_cons, List.length_nil]
    omega
theorem bulkP_write {K : List PT → Nat} {W : List PT → Bool → List UInt8} {R : List PT → Bool → Bool} (hI : ∀ m h, R m h = true → K m ≤ 2 * (W m h).length) (p : PT) (h : Bool) (hp : plainB p h = true) (hc : caseR (fun m => R m (decide (p.k ≠ 4))) p.k [] p.cs = true) :
    1 + p.tx.size + p.nm.size + p.ty.size + p.st.size + bulkC K p.cs ≤ 2 * (partW W h p).length := by
  have hn : p.nm.data.toList.length = p.nm.size := by simp
  unfold plainB at hp
  unfold partW
  by_cases h1 : p.k = 1
  · rw [if_pos h1] at hp ⊢
    simp only [Bool.and_eq_true, Bool.not_eq_true', decide_eq_true_iff] at hp
    obtain ⟨⟨⟨⟨⟨⟨a1, a2⟩, a3⟩, a4⟩, a5⟩, a6⟩, a7⟩ := hp
    have hd := dressL_ge h p.tx.data.toList
    have ht : p.tx.data.toList.length = p.tx.size := by simp
    have h0 : p.tx.size ≠ 0 := of_decide_eq_false a1
    rw [List.eq_nil_of_length_eq_zero a3, noB_zero a4, noB_zero a5, noB_zero a6]
    simp only [bulkC]
    omega
  · rw [if_neg h1] at hp ⊢
    by_cases h2 : p.k = 2
    · rw [if_pos h2] at hp ⊢
      simp only [Bool.and_eq_true, decide_eq_true_iff] at hp
      obtain ⟨⟨⟨⟨⟨⟨a1, a2⟩, a3⟩, a4⟩, a5⟩, a6⟩, a7⟩ := hp
      rw [List.eq_nil_of_length_eq_zero a2, noB_zero a3, noB_zero a4, noB_zero a5, noB_zero a6]
      simp [bulkC]
    · rw [if_neg h2] at hp ⊢
      by_cases h3 : p.k = 3
      · rw [if_pos h3] at hp ⊢
        simp only [Bool.and_eq_true, decide_eq_true_iff] at hp
        obtain ⟨⟨⟨⟨⟨a1, a2⟩, a3⟩, a4⟩, a5⟩, a6⟩ := hp
        rw [List.eq_nil_of_length_eq_zero a4, noB_zero a5]
        have e1 := noB_len p.ty [44, 32]
        have e2 := noB_len p.st [44, 32]
        simp only [bulkC, List.length_append, List.length_cons, List.length_nil] at e1 e2 ⊢
        omega
      · rw [if_neg h3] at hp ⊢
        by_cases h4 : p.k = 4 ∨ p.k = 5 ∨ p.k = 6
        · rw [if_pos h4] at hp ⊢
          simp only [Bool.and_eq_true] at hp
          obtain ⟨⟨⟨a1, a2⟩, a3⟩, a4⟩ := hp
          have hb := bulkC_write (W := fun m => W m (decide (p.k ≠ 4))) (fun m hm => hI m _ hm) p.cs [] false hc
          rw [noB_zero a2, noB_zero a3, noB_zero a4]
          simp only [List.length_append, List.length_cons, List.length_nil]
          omega
        · rw [if_neg h4] at hp
          cases hp
theorem bulkL_write {K : List PT → Nat} {W : List PT → Bool → List UInt8} {R : List PT → Bool → Bool} (hI : ∀ m h, R m h = true → K m ≤ 2 * (W m h).length) (h : Bool) : ∀ (l : List PT) (q : Int), rightL R h q l = true → bulkL K l ≤ 2 * (writeL W h l).length
  | [], _, _ => Nat.zero_le _
  | p :: l, q, hr => by
    simp only [rightL, Bool.and_eq_true] at hr
    have h1 := bulkL_write hI h l _ hr.2
    have h2 := bulkP_write hI p h hr.1.1.1.1 hr.1.1.2
    simp only [bulkL, writeL, List.length_append]
    omega
theorem right_bulk : ∀ (n : Nat) (l : List PT) (h : Bool), rightF n l h = true → bulkF n l ≤ 2 * (writeF n l h).length
  | 0, _, _, h => by cases h
  | n + 1, l, h, hr => bulkL_write (right_bulk n) h l 0 hr
end Go.Proofs.YtmfoiceofhcicaaGreatDoor

namespace Go.Proofs.YtmfoiceofhcicaaGreatDoor
open Go.RowKit Go.IntWalk

theorem form_fine {n : Nat} {l : List PT} (h : (formF n l).2 = 0) : rightF n l false = true ∧ sizeF n l ≤ 1024 ∧ depthF n l ≤ 8 ∧ bulkF n l ≤ 8192 := by
  unfold formF at h
  cases hr : rightF n l false
  · rw [hr] at h; simp at h
  · rw [hr] at h
    rw [if_neg (by decide)] at h
    split at h
    · cases h
    · have := right_bulk n l false hr
      exact ⟨rfl, by omega, by omega, by omega⟩
/-- What Compile tells. -/
def CompO (n : Nat) (l : List PT) (w : World) (e : Ending) (w' : World) : Prop :=
  ((formF n l).2 ≠ 0 ∧ e = .returned (.tuple #[.slice none 0 0, .int .i64 (formF n l).2]) ∨
   (formF n l).2 = 0 ∧ 262144 < (codeF n l).length ∧ e = .returned (.tuple #[.slice none 0 0, .int .i64 3]) ∨
   (formF n l).2 = 0 ∧ (codeF n l).length ≤ 262144 ∧ ∃ u, e = .returned (.tuple #[u, .int .i64 0]) ∧ OwnU w' w.heap.size u (codeF n l)) ∧ Keep [] w w'
set_option maxRecDepth 100000 in
set_option maxHeartbeats 2000000 in
theorem ccompile_any (n : Nat) (l : List PT) (S : Nat → Prop) (v : Value) (B : Nat) (w : World) (hE : EnvM B w) (hL : Lies n S w v l) (hS : ∀ x, S x → x < w.heap.size) (hb : bulkF n l ≤ 900000000) :
    Calls Tryz.prog 11 #[v] w (CompO n l w) := by
  obtain ⟨A, m, cap, rfl⟩ := hL.form
  have HCK := Lib.hid (mcheck_all n l S _ B w hE hL hS hb)
  by_cases h : (formF n l).2 = 0
  · obtain ⟨h1, h2, h3, h4⟩ := form_fine h
    have HCO : ∀ W, Keep [] w W → Hid (Calls Tryz.prog 29 #[.slice A m cap] W fun e w' => ∃ u, e = .returned u ∧ OwnU w' W.heap.size u (codeF n l) ∧ Keep [] W w') := fun W hW => compile_any n l S _ W (hL.keep hW (by simp)) (fun x hx => Nat.lt_of_lt_of_le (hS x hx) hW.size) h1 (by omega)
    rw [h] at HCK
    have HF := Lib.hid h
    obtain ⟨C, hC⟩ : ∃ C, codeF n l = C := ⟨_, rfl⟩
    rw [hC] at HCO
    have HC := Lib.hid hC
    by_cases hl : 262144 < C.length
    · have hl' : (262144 : Int) < C.length := by omega
      clear hE hL hS hb h h1 h2 h3 h4 hC
      go_enter Tryz.func11, Tryz.ntmps11
      go_wp2_with (first
        | (go_at_call 15; refine HCK.out.mono ?_; rintro e w1 ⟨rfl, hk1⟩; have HK1 := Lib.hid hk1; clear hk1)
        | (go_at_call 29; refine (HCO _ HK1.out).out.mono ?_; rintro e w2 ⟨u, rfl, ho, hk⟩; have HO := Lib.hid ho; have HK := Lib.hid hk; obtain ⟨A2, c2, rfl⟩ := ho.form; clear ho hk))
      go_ret2
      exact ⟨.inr (.inl ⟨HF.out, by rw [HC.out]; exact hl, rfl⟩), HK1.out.nil HK.out⟩
    · have hl' : ¬ (262144 : Int) < C.length := by omega
      clear hE hL hS hb h h1 h2 h3 h4 hC
      go_enter Tryz.func11, Tryz.ntmps11
      go_wp2_with (first
        | (go_at_call 15; refine HCK.out.mono ?_; rintro e w1 ⟨rfl, hk1⟩; have HK1 := Lib.hid hk1; clear hk1)
        | (go_at_call 29; refine (HCO _ HK1.out).out.mono ?_; rintro e w2 ⟨u, rfl, ho, hk⟩; have HO := Lib.hid ho; have HK := Lib.hid hk; obtain ⟨A2, c2, rfl⟩ := ho.form; clear ho hk))
      go_ret2
      exact ⟨.inr (.inr ⟨HF.out, by rw [HC.out]; omega, _, rfl, by rw [HC.out]; exact HO.out.le HK1.out.size⟩), HK1.out.nil HK.out⟩
  · have h1 : ((formF n l).2 == 0) = false := by simpa using h
    have h2 : ((formF n l).2 != 0) = true := by simpa using h
    have HF := Lib.hid h
    unfold CompO
    generalize (formF n l).2 = er at *
    clear hE hL hS hb h
    go_enter Tryz.func11, Tryz.ntmps11
    go_wp2_with (go_at_call 15; refine HCK.out.mono ?_; rintro e w1 ⟨rfl, hk1⟩; have HK1 := Lib.hid hk1; clear hk1)
    go_ret2
    exact ⟨.inl ⟨HF.out, rfl⟩, HK1.out⟩
end Go.Proofs.YtmfoiceofhcicaaGreatDoor

namespace Go.Proofs.YtmfoiceofhcicaaGreatDoor

/-- An instruction as it may be listed. -/
def OkO (o : OT) : Prop := o.k ≤ 7 ∧ o.ks.length ≤ 65535
theorem keyR_len (b : List UInt8) (P : List ByteArray) : ∀ (n : Nat) (ks : List ByteArray) (ts : List Nat) (g : Bool) (r : Rd), (keyR b P n ks ts g r).1.length ≤ ks.length + n
  | 0, ks, ts, g, r => by simp [keyR]
  | n + 1, ks, ts, g, r => by
    show (if r.e = true then (ks, ts, g, r) else keyR b P n (ks ++ [(txR b P false r).1]) (ts ++ [(numR b 4 (txR b P false r).2.2).1]) (g && (txR b P false r).2.1) (numR b 4 (txR b P false r).2.2).2).1.length ≤ _
    split
    · show ks.length ≤ _
      omega
    · have := keyR_len b P n (ks ++ [(txR b P false r).1]) (ts ++ [(numR b 4 (txR b P false r).2.2).1]) (g && (txR b P false r).2.1) (numR b 4 (txR b P false r).2.2).2
      rw [List.length_append, List.length_singleton] at this
      omega
theorem takeR_len (b : List UInt8) (n : Nat) (r : Rd) : (takeR b n r).1.length ≤ n := by
  unfold takeR
  split
  · simp
  · split
    · simp
    · show ((b.drop r.p).take n).length ≤ n
      rw [List.length_take]
      omega
theorem numR16 (b : List UInt8) (r : Rd) : (numR b 2 r).1 < 65536 := by
  show leN (takeR b 2 r).1 < 65536
  rw [← numU_le]
  exact Nat.lt_of_lt_of_le (numU_lt _) (Nat.pow_le_pow_right (n := 256) (by omega) (takeR_len b 2 r))
theorem opR_ok {b : List UInt8} {P : List ByteArray} {z a k : Nat} {r : Rd} (h : (opR b P z a k r).2.1 = true) : OkO (opR b P z a k r).1 := by
  by_cases h0 : k = 0
  · subst h0; exact ⟨by simp [opR], by simp [opR]⟩
  by_cases h1 : k = 1
  · subst h1; exact ⟨by simp [opR], by simp [opR]⟩
  by_cases h2 : k = 2
  · subst h2; exact ⟨by simp [opR], by simp [opR]⟩
  by_cases h3 : k = 3
  · subst h3; exact ⟨by simp [opR], by simp [opR]⟩
  by_cases h4 : k = 4 ∨ k = 5 ∨ k = 6
  · have hn := numR16 b (numR b 4 (txR b P false r).2.2).2
    have hl := keyR_len b P (numR b 2 (numR b 4 (txR b P false r).2.2).2).1 [] [] (txR b P false r).2.1 (numR b 2 (numR b 4 (txR b P false r).2.2).2).2
    unfold opR
    rw [if_neg h0, if_neg h1, if_neg h2, if_neg h3, if_pos h4]
    refine ⟨?_, ?_⟩
    · show k ≤ 7
      omega
    · show (keyR b P (numR b 2 (numR b 4 (txR b P false r).2.2).2).1 [] [] (txR b P false r).2.1 (numR b 2 (numR b 4 (txR b P false r).2.2).2).2).1.length ≤ 65535
      simp at hl
      omega
  by_cases h7 : k = 7
  · subst h7; exact ⟨by simp [opR], by simp [opR]⟩
  · unfold opR at h
    rw [if_neg h0, if_neg h1, if_neg h2, if_neg h3, if_neg h4, if_neg h7] at h
    cases h
theorem opsR_ok (b : List UInt8) (P : List ByteArray) (z : Nat) : ∀ (F : Nat) (acc L : List OT) (p : Nat), opsR b P z F acc p = some L → (∀ o ∈ acc, OkO o) → ∀ o ∈ L, OkO o
  | 0, _, _, _, h, _ => by cases h
  | F + 1, acc, L, p, h, ha => by
    unfold opsR at h
    cases hb : b[p]? with
    | none =>
      rw [hb] at h
      simp only [Option.some.injEq] at h
      rw [← h]
      exact ha
    | some c =>
      rw [hb] at h
      simp only at h
      split at h
      · rename_i hc
        rw [Bool.and_eq_true] at hc
        refine opsR_ok b P z F _ L _ h fun o ho => ?_
        rcases List.mem_append.1 ho with ho | ho
        · exact ha o ho
        · rw [List.mem_singleton] at ho
          rw [ho]
          exact opR_ok hc.1
      · cases h
theorem listR_ok {b : List UInt8} {P : List ByteArray} {ops : List OT} (h : listR b = some (P, ops)) : ops ≠ [] ∧ ∀ o ∈ ops, o.k ≤ 7 ∧ o.ks.length ≤ 65535 := by
  unfold listR at h
  simp only at h
  split at h
  · cases h
  · split at h
    · cases h
    · rename_i o ho
      split at h
      · cases h
      · rename_i hne
        simp only [Option.some.injEq, Prod.mk.injEq] at h
        rw [← h.2]
        exact ⟨hne, opsR_ok _ _ _ _ _ _ _ ho (by simp)⟩
/-- The message of a list of instructions. -/
def liftM (ops : List OT) : Option (List PT) := (liftF ops (ops.length + 1) 9 0 []).map Prod.fst
/-- What is read of a code: texts, instructions, message. -/
def readF (b : List UInt8) : Option (List ByteArray × List OT × List PT) :=
  match listR b with
  | none => none
  | some (P, ops) =>
    match liftM ops with
    | none => none
    | some l => if (formF 10 l).2 = 0 ∧ codeF 10 l = b then some (P, ops, l) else none
/-- What is read is small enough. -/
def SmallB (b : List UInt8) : Prop := ∀ P ops l, listR b = some (P, ops) → liftM ops = some l → bulkF 10 l ≤ 900000000
/-- What read tells. -/
def ReadO (b : List UInt8) (w : World) (e : Ending) (w' : World) : Prop :=
  Keep [] w w' ∧ match readF b with
  | none => e = .returned (.tuple #[.pointer none, .slice none 0 0, .bool false])
  | some (P, ops, l) => ∃ xb u, e = .returned (.tuple #[.pointer (some ⟨xb, 0, none⟩), u, .bool true]) ∧ Lst w' w.heap.size xb P ops ∧ Lies 10 (fun x => w.heap.size ≤ x ∧ x < w'.heap.size) w' u l ∧ P.length ≤ 65535 ∧ ops.length ≤ b.length
end Go.Proofs.YtmfoiceofhcicaaGreatDoor

namespace Go.Proofs.YtmfoiceofhcicaaGreatDoor

def sumK : List ByteArray → Nat
  | [] => 0
  | s :: ks => 1 + s.size + sumK ks
theorem sumK_snoc (s : ByteArray) : ∀ ks : List ByteArray, sumK (ks ++ [s]) = sumK ks + (1 + s.size)
  | [] => by simp [sumK]
  | t :: ks => by
    simp only [List.cons_append, sumK, sumK_snoc s ks]
    omega
/-- What an instruction weighs. -/
def wO (o : OT) : Nat := 1 + o.tx.size + o.nm.size + o.ty.size + o.st.size + sumK o.ks
def sumW : List OT → Nat
  | [] => 0
  | o :: l => wO o + sumW l
theorem sumW_snoc (o : OT) : ∀ l : List OT, sumW (l ++ [o]) = sumW l + wO o
  | [] => by simp [sumW]
  | t :: l => by
    simp only [List.cons_append, sumW, sumW_snoc o l]
    omega
theorem sumW_take_le : ∀ (l : List OT) (i : Nat), sumW (l.take i) ≤ sumW l
  | [], i => by simp [sumW]
  | o :: l, 0 => by simp [sumW]
  | o :: l, i + 1 => by
    have := sumW_take_le l i
    simp only [List.take_succ_cons, sumW]
    omega
theorem sumW_take_succ {o : OT} : ∀ {l : List OT} {i : Nat}, l[i]? = some o → sumW (l.take (i + 1)) = sumW (l.take i) + wO o
  | [], _, h => by simp at h
  | t :: l, 0, h => by
    simp only [List.getElem?_cons_zero, Option.some.injEq] at h
    subst h
    simp [sumW]
  | t :: l, i + 1, h => by
    have := sumW_take_succ (l := l) (i := i) (by simpa using h)
    simp only [List.take_succ_cons, sumW] at this ⊢
    omega
theorem sumW_take_mono (l : List OT) (i : Nat) : sumW (l.take i) ≤ sumW (l.take (i + 1)) := by
  cases h : l[i]? with
  | none =>
    have hl := List.getElem?_eq_none_iff.1 h
    rw [List.take_of_length_le hl, List.take_of_length_le (by omega)]
    exact Nat.le_refl _
  | some o => rw [sumW_take_succ h]; omega

/-! ### reading -/
section
variable {b : List UInt8} {P : List ByteArray} {T : Nat}
theorem take_ok {n : Nat} {r : Rd} (h : (takeR b n r).2.e = false) (hr : r.p ≤ b.length) : r.e = false ∧ (takeR b n r).2.p = r.p + n ∧ r.p + n ≤ b.length := by
  unfold takeR at *
  cases hre : r.e with
  | true => rw [hre] at h; simp [hre] at h
  | false =>
    rw [hre] at h
    simp only [Bool.false_eq_true, if_false] at h ⊢
    split at h
    · cases h
    · rename_i hn
      rw [if_neg hn]
      exact ⟨trivial, rfl, by omega⟩
theorem num_ok {n : Nat} {r : Rd} (h : (numR b n r).2.e = false) (hr : r.p ≤ b.length) : r.e = false ∧ (numR b n r).2.p = r.p + n ∧ r.p + n ≤ b.length := take_ok h hr
theorem tx_snd (may : Bool) (r : Rd) : (txR b P may r).2.2 = (numR b 2 r).2 := by
  unfold txR
  cases P[(numR b 2 r).1]? <;> rfl
theorem tx_ok {may : Bool} {r : Rd} (h : (txR b P may r).2.2.e = false) (hr : r.p ≤ b.length) : r.e = false ∧ (txR b P may r).2.2.p = r.p + 2 ∧ r.p + 2 ≤ b.length := by
  rw [tx_snd] at h ⊢
  exact num_ok h hr
theorem tx_size (hT : ∀ s ∈ P, s.size ≤ T) (may : Bool) (r : Rd) : (txR b P may r).1.size ≤ T := by
  unfold txR
  cases h : P[(numR b 2 r).1]? with
  | none => exact Nat.zero_le _
  | some t => exact hT t (List.mem_of_getElem? h)
theorem key_ok (hT : ∀ s ∈ P, s.size ≤ T) : ∀ (n : Nat) (ks : List ByteArray) (ts : List Nat) (g : Bool) (r : Rd), (keyR b P n ks ts g r).2.2.2.e = false → r.p ≤ b.length →
    r.e = false ∧ (keyR b P n ks ts g r).2.2.2.p = r.p + 6 * n ∧ r.p + 6 * n ≤ b.length ∧ sumK (keyR b P n ks ts g r).1 ≤ sumK ks + n * (T + 1)
  | 0, ks, ts, g, r, h, hr => by
    simp only [keyR] at h ⊢
    exact ⟨h, by omega, by omega, by omega⟩
  | n + 1, ks, ts, g, r, h, hr => by
    have e : keyR b P (n + 1) ks ts g r = if r.e = true then (ks, ts, g, r) else keyR b P n (ks ++ [(txR b P false r).1]) (ts ++ [(numR b 4 (txR b P false r).2.2).1]) (g && (txR b P false r).2.1) (numR b 4 (txR b P false r).2.2).2 := rfl
    rw [e] at h ⊢
    cases hre : r.e with
    | true =>
      rw [if_pos hre] at h
      rw [hre] at h
      cases h
    | false =>
      rw [if_neg (by simp [hre])] at h ⊢
      have hrp : (numR b 4 (txR b P false r).2.2).2.p ≤ b.length ∨ True := .inr trivial
      by_cases hp : (numR b 4 (txR b P false r).2.2).2.e = false
      · by_cases hq : (txR b P false r).2.2.e = false
        · have h1 := tx_ok hq hr
          have h2 := num_ok hp (by omega)
          have ih := key_ok hT n _ _ _ _ h (by omega)
          rw [sumK_snoc] at ih
          have hs := tx_size (b := b) hT false r
          refine ⟨rfl, by omega, by omega, ?_⟩
          rw [Nat.add_mul]
          omega
        · exfalso
          have hq' : (txR b P false r).2.2.e = true := by simpa using hq
          have : (numR b 4 (txR b P false r).2.2).2.e = true := by
            show (takeR b 4 (txR b P false r).2.2).2.e = true
            unfold takeR
            rw [if_pos hq']
            exact hq'
          rw [this] at hp
          cases hp
      · exfalso
        have hp' : (numR b 4 (txR b P false r).2.2).2.e = true := by simpa using hp
        have : ∀ (n : Nat) (ks : List ByteArray) (ts : List Nat) (g : Bool) (r : Rd), r.e = true → (keyR b P n ks ts g r).2.2.2.e = true := fun n ks ts g r hr => by
          cases n with
          | zero => exact hr
          | succ n =>
            show (if r.e = true then (ks, ts, g, r) else _ : List ByteArray × List Nat × Bool × Rd).2.2.2.e = true
            rw [if_pos hr]
            exact hr
        rw [this _ _ _ _ _ hp'] at h
        cases h
theorem num_bad {n : Nat} {r : Rd} (h : (numR b n r).2.e = false) : r.e = false := by
  cases hr : r.e with
  | false => rfl
  | true =>
    have : (takeR b n r).2.e = true := by
      unfold takeR
      rw [if_pos hr]
      exact hr
    rw [show (numR b n r).2.e = (takeR b n r).2.e from rfl, this] at h
    cases h
theorem tx_bad {may : Bool} {r : Rd} (h : (txR b P may r).2.2.e = false) : r.e = false := by
  rw [tx_snd] at h
  exact num_bad h
theorem op_w (hT : ∀ s ∈ P, s.size ≤ T) {z a k : Nat} {r : Rd} (hg : (opR b P z a k r).2.1 = true) (he : (opR b P z a k r).2.2.e = false) (hr : r.p ≤ b.length) :
    r.p ≤ (opR b P z a k r).2.2.p ∧ (opR b P z a k r).2.2.p ≤ b.length ∧ wO (opR b P z a k r).1 ≤ ((opR b P z a k r).2.2.p + 1 - r.p) * (T + 1) := by
  have hz : (⟨#[]⟩ : ByteArray).size = 0 := rfl
  have hmul : ∀ m : Nat, 1 ≤ m → T + 1 ≤ m * (T + 1) := fun m hm => Nat.le_mul_of_pos_left _ hm
  by_cases h0 : k = 0
  · subst h0
    simp only [opR, if_true] at he ⊢
    refine ⟨Nat.le_refl _, hr, ?_⟩
    have := hmul (r.p + 1 - r.p) (by omega)
    simp only [wO, hz, sumK]
    omega
  by_cases h1 : k = 1
  · subst h1
    simp only [opR, if_neg h0, if_true] at he ⊢
    obtain ⟨-, e2, e3⟩ := tx_ok he hr
    have hs := tx_size (b := b) hT false r
    refine ⟨by omega, by omega, ?_⟩
    have := hmul ((txR b P false r).2.2.p + 1 - r.p) (by omega)
    simp only [wO, hz, sumK]
    omega
  by_cases h2 : k = 2
  · subst h2
    simp only [opR, if_neg h0, if_neg h1, if_true] at he ⊢
    have hq := num_bad he
    obtain ⟨-, e2, e3⟩ := tx_ok hq hr
    obtain ⟨-, e4, e5⟩ := num_ok he (by omega)
    have hs := tx_size (b := b) hT false r
    refine ⟨by omega, by omega, ?_⟩
    have := hmul ((numR b 4 (txR b P false r).2.2).2.p + 1 - r.p) (by omega)
    simp only [wO, hz, sumK]
    omega
  by_cases h3 : k = 3
  · subst h3
    simp only [opR, if_neg h0, if_neg h1, if_neg h2, if_true] at he ⊢
    have hq2 := tx_bad he
    have hq1 := tx_bad hq2
    obtain ⟨-, e2, e3⟩ := tx_ok hq1 hr
    obtain ⟨-, e4, e5⟩ := tx_ok hq2 (by omega)
    obtain ⟨-, e6, e7⟩ := tx_ok he (by omega)
    have hs := tx_size (b := b) hT false r
    have hs2 := tx_size (b := b) hT true (txR b P false r).2.2
    have hs3 := tx_size (b := b) hT true (txR b P true (txR b P false r).2.2).2.2
    refine ⟨by omega, by omega, ?_⟩
    have : 3 * (T + 1) ≤ ((txR b P true (txR b P true (txR b P false r).2.2).2.2).2.2.p + 1 - r.p) * (T + 1) := Nat.mul_le_mul_right _ (by omega)
    simp only [wO, hz, sumK]
    omega
  by_cases h4 : k = 4 ∨ k = 5 ∨ k = 6
  · simp only [opR, if_neg h0, if_neg h1, if_neg h2, if_neg h3, if_pos h4] at he ⊢
    have kb : (numR b 2 (numR b 4 (txR b P false r).2.2).2).2.e = false := by
      cases hre : (numR b 2 (numR b 4 (txR b P false r).2.2).2).2.e with
      | false => rfl
      | true =>
        exfalso
        generalize (numR b 2 (numR b 4 (txR b P false r).2.2).2).1 = n at he
        cases n with
        | zero => simp only [keyR] at he; rw [hre] at he; cases he
        | succ n =>
          have : (keyR b P (n + 1) [] [] (txR b P false r).2.1 (numR b 2 (numR b 4 (txR b P false r).2.2).2).2).2.2.2.e = true := by
            show (if (numR b 2 (numR b 4 (txR b P false r).2.2).2).2.e = true then (([] : List ByteArray), ([] : List Nat), (txR b P false r).2.1, (numR b 2 (numR b 4 (txR b P false r).2.2).2).2) else _ : List ByteArray × List Nat × Bool × Rd).2.2.2.e = true
            rw [if_pos hre]
            exact hre
          rw [this] at he
          cases he
    have q2 := num_bad kb
    have q1 := num_bad q2
    obtain ⟨-, e2, e3⟩ := tx_ok q1 hr
    obtain ⟨-, e4, e5⟩ := num_ok q2 (by omega)
    obtain ⟨-, e6, e7⟩ := num_ok kb (by omega)
    obtain ⟨-, e8, e9, e10⟩ := key_ok hT _ _ _ _ _ he (by omega)
    have hs := tx_size (b := b) hT false r
    refine ⟨by omega, by omega, ?_⟩
    generalize (numR b 2 (numR b 4 (txR b P false r).2.2).2).1 = n at *
    have : (n + 1) * (T + 1) ≤ ((keyR b P n [] [] (txR b P false r).2.1 (numR b 2 (numR b 4 (txR b P false r).2.2).2).2).2.2.2.p + 1 - r.p) * (T + 1) := Nat.mul_le_mul_right _ (by omega)
    rw [Nat.add_mul] at this
    simp only [sumK] at e10
    simp only [wO, hz]
    omega
  by_cases h7 : k = 7
  · subst h7
    simp only [opR, if_neg h0, if_neg h1, if_neg h2, if_neg h3, if_neg h4, if_true] at he ⊢
    obtain ⟨-, e2, e3⟩ := num_ok he hr
    refine ⟨by omega, by omega, ?_⟩
    have := hmul ((numR b 4 r).2.p + 1 - r.p) (by omega)
    simp only [wO, hz, sumK]
    omega
  · simp only [opR, if_neg h0, if_neg h1, if_neg h2, if_neg h3, if_neg h4, if_neg h7] at hg
    cases hg
theorem ops_w (hT : ∀ s ∈ P, s.size ≤ T) (z : Nat) : ∀ (F : Nat) (acc L : List OT) (p : Nat), opsR b P z F acc p = some L → p ≤ b.length → sumW L ≤ sumW acc + (b.length - p) * (T + 1)
  | 0, _, _, _, h, _ => by cases h
  | F + 1, acc, L, p, h, hp => by
    unfold opsR at h
    cases hb : b[p]? with
    | none =>
      rw [hb] at h
      simp only [Option.some.injEq] at h
      rw [← h]
      omega
    | some c =>
      have hpl := (List.getElem?_eq_some_iff.1 hb).1
      rw [hb] at h
      simp only at h
      split at h
      · rename_i hc
        rw [Bool.and_eq_true] at hc
        obtain ⟨w1, w2, w3⟩ := op_w hT (r := ⟨p + 1, false⟩) hc.1 (by simpa using hc.2) (by show p + 1 ≤ b.length; omega)
        have ih := ops_w hT z F _ L _ h w2
        rw [sumW_snoc] at ih
        generalize (opR b P z (p - z) c.toNat ⟨p + 1, false⟩).2.2.p = p' at *
        simp only at w1 w3
        have e : (b.length - p) * (T + 1) = (p' + 1 - (p + 1)) * (T + 1) + (b.length - p') * (T + 1) := by
          rw [← Nat.add_mul]
          congr 1
          omega
        omega
      · cases h
theorem take_size {n : Nat} {r : Rd} (hr : r.p ≤ b.length) : (takeR b n r).1.length ≤ (takeR b n r).2.p ∧ r.p ≤ (takeR b n r).2.p ∧ (takeR b n r).2.p ≤ b.length := by
  unfold takeR
  split
  · exact ⟨Nat.zero_le _, Nat.le_refl _, hr⟩
  · split
    · exact ⟨Nat.zero_le _, Nat.le_refl _, hr⟩
    · refine ⟨?_, Nat.le_add_right _ _, ?_⟩
      · show ((b.drop r.p).take n).length ≤ r.p + n
        rw [List.length_take]
        omega
      · show r.p + n ≤ b.length
        omega
theorem pool_size : ∀ (n : Nat) (acc : List ByteArray) (r : Rd), r.p ≤ b.length → r.p ≤ (poolR b n acc r).2.p ∧ (poolR b n acc r).2.p ≤ b.length ∧ ∀ s ∈ (poolR b n acc r).1, s ∈ acc ∨ s.size ≤ (poolR b n acc r).2.p
  | 0, acc, r, hr => ⟨Nat.le_refl _, hr, fun s hs => .inl hs⟩
  | n + 1, acc, r, hr => by
    have e : poolR b (n + 1) acc r = if r.e = true then (acc, r) else poolR b n (acc ++ [⟨(takeR b (numR b 2 r).1 (numR b 2 r).2).1.toArray⟩]) (takeR b (numR b 2 r).1 (numR b 2 r).2).2 := rfl
    rw [e]
    split
    · exact ⟨Nat.le_refl _, hr, fun s hs => .inl hs⟩
    · have h1 := take_size (b := b) (n := 2) (r := r) hr
      have h2 := take_size (b := b) (n := (numR b 2 r).1) (r := (numR b 2 r).2) h1.2.2
      have ih := pool_size n (acc ++ [⟨(takeR b (numR b 2 r).1 (numR b 2 r).2).1.toArray⟩]) (takeR b (numR b 2 r).1 (numR b 2 r).2).2 h2.2.2
      have h3 : (numR b 2 r).2.p = (takeR b 2 r).2.p := rfl
      refine ⟨by omega, ih.2.1, fun s hs => ?_⟩
      rcases ih.2.2 s hs with hs | hs
      · rcases List.mem_append.1 hs with hs | hs
        · exact .inl hs
        · rw [List.mem_singleton] at hs
          right
          have : s.size = (takeR b (numR b 2 r).1 (numR b 2 r).2).1.length := by
            rw [hs]
            show (takeR b (numR b 2 r).1 (numR b 2 r).2).1.toArray.size = _
            simp
          omega
      · exact .inr hs
theorem list_w {ops : List OT} (h : listR b = some (P, ops)) : ∃ z, z ≤ b.length ∧ sumW ops ≤ (b.length - z) * (z + 1) := by
  unfold listR at h
  simp only at h
  split at h
  · cases h
  · rename_i hc
    rw [not_or] at hc
    have h0 := take_size (b := b) (n := 2) (r := ⟨0, false⟩) (Nat.zero_le _)
    have hp := pool_size (b := b) (numR b 2 ⟨0, false⟩).1 [] (numR b 2 ⟨0, false⟩).2 h0.2.2
    have h4 := num_ok (b := b) (n := 4) (by simpa using hc.1) hp.2.1
    split at h
    · cases h
    · rename_i o ho
      split at h
      · cases h
      · simp only [Option.some.injEq, Prod.mk.injEq] at h
        rw [← h.2]
        refine ⟨(numR b 4 (poolR b (numR b 2 ⟨0, false⟩).1 [] (numR b 2 ⟨0, false⟩).2).2).2.p, ?_, ?_⟩
        · omega
        · have := ops_w (T := (numR b 4 (poolR b (numR b 2 ⟨0, false⟩).1 [] (numR b 2 ⟨0, false⟩).2).2).2.p) (fun s hs => by
            rcases hp.2.2 s hs with hs | hs
            · simp at hs
            · omega) _ _ _ _ _ ho (by omega)
          simpa [sumW] using this
end

/-! ### lifting -/
theorem bulkC_snoc (K : List PT → Nat) (c : CT) : ∀ cs : List CT, bulkC K (cs ++ [c]) = bulkC K cs + (1 + c.1.size + K c.2)
  | [] => by simp [bulkC]
  | d :: cs => by
    simp only [List.cons_append, bulkC, bulkC_snoc K c cs]
    omega
theorem bulkL_snoc (K : List PT → Nat) (p : PT) : ∀ l : List PT, bulkL K (l ++ [p]) = bulkL K l + (1 + p.tx.size + p.nm.size + p.ty.size + p.st.size + bulkC K p.cs)
  | [] => by simp [bulkL]
  | q :: l => by
    simp only [List.cons_append, bulkL, bulkL_snoc K p l]
    omega
section
variable {ops : List OT}
theorem cas_w {K : List PT → Nat} {M : Nat → Option (List PT × Nat)} (hM : ∀ i l e, M i = some (l, e) → K l + sumW (ops.take i) ≤ sumW (ops.take e)) :
    ∀ (ks : List ByteArray) (i : Nat) (acc cs : List CT) (e : Nat), casL ops M ks i acc = some (cs, e) → bulkC K cs + sumW (ops.take (i + 1)) ≤ bulkC K acc + sumK ks + sumW (ops.take (e + 1))
  | [], i, acc, cs, e, h => by
    simp only [casL, Option.some.injEq, Prod.mk.injEq] at h
    rw [← h.1, ← h.2]
    simp [sumK]
  | k :: ks, i, acc, cs, e, h => by
    unfold casL at h
    cases hm : M (i + 1) with
    | none => rw [hm] at h; cases h
    | some x =>
      obtain ⟨l, j⟩ := x
      rw [hm] at h
      simp only at h
      split at h
      · have h1 := hM _ _ _ hm
        have h2 := cas_w hM ks j _ _ _ h
        have h3 := sumW_take_mono ops j
        rw [bulkC_snoc] at h2
        have h4 : bulkC K cs + sumW (ops.take (j + 1)) ≤ bulkC K acc + (1 + k.size + K l) + sumK ks + sumW (ops.take (e + 1)) := h2
        simp only [sumK]
        omega
      · cases h
theorem lift_w : ∀ (F nest n i : Nat) (acc l : List PT) (e : Nat), liftF ops F nest i acc = some (l, e) → nest < n → bulkF n l + sumW (ops.take i) ≤ bulkF n acc + sumW (ops.take e)
  | 0, _, _, _, _, _, _, h, _ => by cases h
  | F + 1, nest, 0, _, _, _, _, _, hn => by omega
  | F + 1, nest, n + 1, i, acc, l, e, h, hn => by
    have hz : (⟨#[]⟩ : ByteArray).size = 0 := rfl
    unfold liftF at h
    cases ho : ops[i]? with
    | none => rw [ho] at h; cases h
    | some o =>
      have hA := sumW_take_succ ho
      rw [ho] at h
      simp only at h
      split at h
      · have ih := lift_w F nest (n + 1) _ _ _ _ h hn
        simp only [bulkF, bulkL_snoc] at ih ⊢
        simp only [textP, hz, bulkC, wO] at ih hA
        omega
      split at h
      · have ih := lift_w F nest (n + 1) _ _ _ _ h hn
        simp only [bulkF, bulkL_snoc] at ih ⊢
        simp only [hashP, hz, bulkC, wO] at ih hA
        omega
      split at h
      · have ih := lift_w F nest (n + 1) _ _ _ _ h hn
        simp only [bulkF, bulkL_snoc] at ih ⊢
        simp only [hz, bulkC, wO] at ih hA
        omega
      split at h
      · simp only [Option.some.injEq, Prod.mk.injEq] at h
        rw [← h.1, ← h.2]
        omega
      split at h
      · cases h
      · rename_i hne
        split at h
        · cases h
        · rename_i cs e' hc
          have h1 := cas_w (K := bulkF n) (fun i l e hh => by
            have := lift_w F (nest - 1) n i [] l e hh (by omega)
            have h0 : bulkF n [] = 0 := by cases n <;> rfl
            omega) _ _ _ _ _ hc
          have ih := lift_w F nest (n + 1) _ _ _ _ h hn
          simp only [bulkF, bulkL_snoc] at ih ⊢
          simp only [hz, bulkC, wO] at ih hA h1
          omega
end
theorem mul_small {x y : Nat} (h : x + y ≤ 58001) : x * y ≤ 900000000 := by
  have hm : ∀ a c : Nat, x ≤ a → y ≤ c → a * c ≤ 900000000 → x * y ≤ 900000000 := fun a c h1 h2 h3 => Nat.le_trans (Nat.mul_le_mul h1 h2) h3
  by_cases h1 : x ≤ 15500
  · exact hm 15500 58001 h1 (by omega) (by decide)
  by_cases h2 : y ≤ 15500
  · exact hm 58001 15500 (by omega) h2 (by decide)
  by_cases h3 : x ≤ 21000
  · exact hm 21000 42501 h3 (by omega) (by decide)
  by_cases h4 : y ≤ 21000
  · exact hm 42501 21000 (by omega) h4 (by decide)
  by_cases h5 : x ≤ 24300
  · exact hm 24300 37001 h5 (by omega) (by decide)
  by_cases h6 : y ≤ 24300
  · exact hm 37001 24300 (by omega) h6 (by decide)
  by_cases h7 : x ≤ 26700
  · exact hm 26700 33701 h7 (by omega) (by decide)
  by_cases h8 : y ≤ 26700
  · exact hm 33701 26700 (by omega) h8 (by decide)
  by_cases h9 : x ≤ 28700
  · exact hm 28700 31301 h9 (by omega) (by decide)
  by_cases h10 : y ≤ 28700
  · exact hm 31301 28700 (by omega) h10 (by decide)
  · exact hm 29301 29301 (by omega) (by omega) (by decide)
/-- Few bytes say a small message. -/
theorem small_b {b : List UInt8} (hb : b.length ≤ 58000) : SmallB b := fun P ops l hl hm => by
  obtain ⟨z, hz, hw⟩ := list_w hl
  unfold liftM at hm
  cases h : liftF ops (ops.length + 1) 9 0 [] with
  | none => rw [h] at hm; cases hm
  | some x =>
    obtain ⟨l', e⟩ := x
    rw [h] at hm
    simp only [Option.map_some, Option.some.injEq] at hm
    subst hm
    have h1 := lift_w _ _ 10 _ _ _ _ h (by omega)
    have h2 := sumW_take_le ops e
    have h0 : bulkF 10 [] = 0 := rfl
    have h3 := mul_small (x := b.length - z) (y := z + 1) (by omega)
    omega
end Go.Proofs.YtmfoiceofhcicaaGreatDoor

namespace Go.Proofs.YtmfoiceofhcicaaGreatDoor
open Go.RowKit Go.Maps Go.WideMaps

/-- The last instruction that stands at a place; 0: none. -/
def lookL : Nat → Nat → List OT → Nat → Nat
  | _, r, [], _ => r
  | i, r, o :: l, t => lookL (i + 1) (if o.at_ = t then i else r) l t
def lookN (ops : List OT) (t : Nat) : Nat := lookL 0 0 ops t
theorem lookL_lt : ∀ (l : List OT) (i r n t : Nat), r < n → i + l.length ≤ n → lookL i r l t < n
  | [], _, _, _, _, h, _ => h
  | o :: l, i, r, n, t, h, hl => by
    rw [List.length_cons] at hl
    refine lookL_lt l (i + 1) _ n t ?_ (by omega)
    split <;> omega
theorem lookN_lt {ops : List OT} {t : Nat} (h : 0 < ops.length) : lookN ops t < ops.length := lookL_lt ops 0 0 _ t h (by omega)
def valN (D : MapD) (t : Nat) : DataW Unit := D.atKey (keyN t) (.lit (.int .i64 0))
theorem keyN_inj {a b : Nat} (h : keyN a = keyN b) : a = b := by
  unfold keyN at h
  injection h with _ h
  omega
theorem isMap_putN {D : MapD} (h : IsMap D) (a v : Nat) : IsMap (putN D a v) := IsMap.put h _ _
theorem valN_put {D : MapD} (h : IsMap D) (a v t : Nat) : valN (putN D a v) t = if a = t then .lit (.int .i64 (v : Int)) else valN D t := by
  split
  · rename_i e
    subst e
    exact atKey_put_same h (by trivial) _ _
  · rename_i e
    exact atKey_put_other (fun h => e (keyN_inj h).symm) _ _
theorem valN_at : ∀ (l : List OT) (D : MapD) (i r t : Nat), IsMap D → valN D t = .lit (.int .i64 (r : Int)) → valN (atN D i l) t = .lit (.int .i64 (lookL i r l t : Nat))
  | [], _, _, _, _, _, h => h
  | o :: l, D, i, r, t, hD, h => by
    show valN (atN (putN D o.at_ i) (i + 1) l) t = .lit (.int .i64 (lookL (i + 1) (if o.at_ = t then i else r) l t : Nat))
    refine valN_at l _ _ _ t (isMap_putN hD _ _) ?_
    rw [valN_put hD]
    split
    · rfl
    · exact h
theorem valN_ops (ops : List OT) (t : Nat) : valN (atN (.map []) 0 ops) t = .lit (.int .i64 (lookN ops t : Nat)) := valN_at ops _ 0 0 t ⟨[], rfl⟩ rfl
theorem zero_n (w : World) : (zeroValue 3).run Tryz.prog w = .ok (.int .i64 0) w := by kernel_rfl
/-- 'm[k]' at the operation. -/
theorem wpList_getN {w : World} {b n : Nat} {D : MapD} {ops : Array Oper} {rest : List Oper} {o : Oper} {a : Act} {Q : Exit → Act → World → Prop} (hg : o.guard = none) (m x : Operand) (hop : o.op = Op.lookup 75 m x false)
    (hown : OwnMapN w b n D) (hm : a.eval m = .map (some b)) (k : Nat) (hx : a.eval x = .int .i64 (k : Int)) (hs : k ≤ 1000000000000) (z : Nat) (hz : valN D k = .lit (.int .i64 (z : Int)))
    (hK : wpList Tryz.prog ops Q rest (a.put o.dst (.int .i64 (z : Int))) w) : wpList Tryz.prog ops Q (o :: rest) a w :=
  wpList_lookup_own_int w hg m x 75 hop 3 3 .i64 law_n Tryz.underlying75 Tryz.underlying3 (zero_n _) b n D hm hown _ _ hx (keyOf_int_mk Tryz.underlying3 (WalkArith.wf_i64 (by omega)))
    fun c hc _ => by
      have : (DataW.lit (Lit.int .i64 (z : Int)) : DataW Unit) = .lit (.int .i64 c) := hz.symm.trans hc
      injection this with this
      injection this with _ this
      subst this
      exact hK
/-- How far the end is from an instruction, those behind it being known. -/
def mostF (ops : List OT) (A : List Nat) (i : Nat) (o : OT) : Nat :=
  if o.k = 0 then 0 else if o.ts = [] then A.getD (i + 1) 0 else o.ts.foldl (fun m t => max m (A.getD (lookN ops t) 0)) 0
def farF (ops : List OT) : Nat → List Nat → List Nat
  | 0, A => A
  | i + 1, A => match ops[i]? with
    | none => A
    | some o => farF ops i (A.set i (mostF ops A i o + 1))
def boundF (ops : List OT) : Nat := (farF ops ops.length (List.replicate ops.length 0)).getD 0 0
theorem fold_le {f : Nat → Nat} {n : Nat} (hf : ∀ t, f t ≤ n) : ∀ (ts : List Nat) (m : Nat), m ≤ n → ts.foldl (fun m t => max m (f t)) m ≤ n
  | [], _, h => h
  | t :: ts, _, h => fold_le hf ts _ (Nat.max_le.2 ⟨h, hf t⟩)
theorem getD_le {A : List Nat} {n : Nat} (hA : ∀ x ∈ A, x ≤ n) (i : Nat) : A.getD i 0 ≤ n := by
  rw [List.getD_eq_getElem?_getD]
  cases h : A[i]? with
  | none => exact Nat.zero_le _
  | some x => exact hA x (List.mem_of_getElem? h)
theorem most_le {ops : List OT} {A : List Nat} {n : Nat} (hA : ∀ x ∈ A, x ≤ n) (i : Nat) (o : OT) : mostF ops A i o ≤ n := by
  unfold mostF
  split
  · exact Nat.zero_le _
  · split
    · exact getD_le hA _
    · exact fold_le (fun t => getD_le hA _) _ _ (Nat.zero_le _)
theorem set_le {A : List Nat} {n i x : Nat} (hA : ∀ y ∈ A, y ≤ n) (hx : x ≤ n) : ∀ y ∈ A.set i x, y ≤ n := fun y hy => by
  rcases List.mem_or_eq_of_mem_set hy with h | h
  · exact hA y h
  · omega
/-! ### numbers of the call's own, put over -/
theorem run_make_ints (n : Nat) (hn : n ≤ 1000000000) (w : World) : (Instr.makeSlice 30 (.int .i64 n) (.int .i64 n)).run Tryz.prog w =
    .ok (.slice (some ⟨w.heap.size, 0, none⟩) n n) (w.alloc (.cells (Array.replicate n (Value.int .i64 0)) 3)) := by
  rw [← List.toArray_replicate]
  obtain ⟨i0, hi, hz0, hz1, hz2⟩ := info_parts infoN
  have h := run_make (P := Tryz.prog) w 30 3 i0 _ Tryz.underlying30 hi hz0 .i64 .i64 n n (by omega) (Int.le_refl _) (by rw [hz2]; omega) (by omega)
  rw [hz1, Int.toNat_natCast, Nat.mul_one] at h
  rw [h]
  have e : madeCells (Value.int .i64 0).cells n = (List.replicate n (Value.int .i64 0)).toArray := by
    apply Array.toList_inj.1
    show (madeCells #[.int .i64 0] n).toList = _
    rw [toList_madeCells_one]
  rw [e]
theorem made_ints (w : World) (n : Nat) (hn : n ≤ 1000000000) : OwnN (w.alloc (.cells (Array.replicate n (Value.int .i64 0)) 3)) w.heap.size (.slice (some ⟨w.heap.size, 0, none⟩) n n) (List.replicate n 0) := by
  rw [← List.toArray_replicate]
  refine ⟨by simp, .inr ⟨w.heap.size, n, _, by simp, Nat.le_refl _, heap_alloc_new w _, by simp, by unfold maxLen; omega, by simp, ?_⟩⟩
  simp [cellN]
theorem OwnN.set {w : World} {B b m cap : Nat} {l : List Nat} (h : OwnN w B (.slice (some ⟨b, 0, none⟩) m cap) l) (i : Nat) (c : Nat) : OwnN (w.setCell ⟨b, i, none⟩ (.int .i64 (c : Int))) B (.slice (some ⟨b, 0, none⟩) m cap) (l.set i c) := by
  obtain ⟨A, c', he⟩ := h.form
  injection he with _ he _
  subst he
  have := (World.ownsRow.stored h i (.int .i64 (c : Int))).1
  unfold OwnN
  rw [List.length_set, List.map_set]
  exact this
theorem OwnN.get {w : World} {B b m cap : Nat} {l : List Nat} (h : OwnN w B (.slice (some ⟨b, 0, none⟩) m cap) l) (i : Nat) (hi : i < l.length) : w.cell? ⟨b, i, none⟩ = some (.int .i64 (l.getD i 0 : Nat)) ∧ w.frozen? ⟨b, i, none⟩ = false := by
  obtain ⟨A, c', he⟩ := h.form
  injection he with _ he _
  subst he
  refine ⟨?_, World.ownsRow.frozenAt h i⟩
  rw [World.ownsRow.cellAt h i (by omega), List.getElem?_map, List.getD_eq_getElem?_getD, List.getElem?_eq_getElem hi]
  rfl
end Go.Proofs.YtmfoiceofhcicaaGreatDoor

namespace Go.Proofs.YtmfoiceofhcicaaGreatDoor
open Go.RowKit Go.IntWalk

def deepF : Nat → List PT → Bool
  | 0, l => decide (0 < l.length)
  | m + 1, l => decide (1100 < l.length) || l.any fun p => decide (200 < p.cs.length) || p.cs.any fun c => deepF m c.2
def DpC (m : Nat) : Prop := ∀ (n : Nat) (l : List PT) (S : Nat → Prop) (v : Value) (w : World), Lies n S w v l → Calls Tryz.prog 10 #[v, .int .i64 m] w fun e w' => e = .returned (.bool (deepF m l)) ∧ Keep [] w w'
set_option maxRecDepth 100000 in
set_option maxHeartbeats 4000000 in
theorem deep_zero : DpC 0 := by
  intro n l S v w h
  obtain ⟨A, m, cap, rfl⟩ := h.form
  have hml : m = l.length := by
    cases n with
    | zero => exact h.elim
    | succ n =>
      obtain ⟨A', c', he, _⟩ := lies_open h
      injection he
  subst hml
  clear h
  go_enter Tryz.func10, Tryz.ntmps10
  go_wp2
  go_ret
  exact ⟨by simp [deepF], Keep.refl _ _⟩
set_option maxRecDepth 100000 in
set_option maxHeartbeats 4000000 in
theorem deep_step (m : Nat) (hm : m ≤ 1000) (ih : DpC m) : DpC (m + 1) := by
  intro n l S v w h
  cases n with
  | zero => exact h.elim
  | succ n =>
  obtain ⟨A, cap, rfl, hlm, hat⟩ := lies_open h
  have HAT := Lib.hid hat
  have HIH := Lib.hid ih
  clear h hat ih
  obtain ⟨z, hz⟩ : ∃ z : Int, ((m + 1 : Nat) : Int) = z := ⟨_, rfl⟩
  rw [hz]
  have hz0 : (z == 0) = false := by simp; omega
  have hz1 : IntKind.i64.wrap (z - 1) = (m : Int) := by rw [IntKind.wrap_i64]; omega
  have hz2 : wrap64 (z - 1) = (m : Int) := by unfold wrap64; omega
  have HZ := Lib.hid hz
  clear hz
  by_cases h11 : 1100 < l.length
  · have hg : (1100 : Int) < (l.length : Int) := by omega
    have hD : deepF (m + 1) l = true := by simp [deepF, h11]
    rw [hD]
    have h0 : (0 : Int) < (l.length : Int) := by omega
    clear h11 hD
    go_enter Tryz.func10, Tryz.ntmps10
    go_wp2
    go_ret
    refine ⟨?_, Keep.refl _ _⟩
    first | rfl | (simp; omega) | simp
  · have hD : deepF (m + 1) l = l.any fun p => decide (200 < p.cs.length) || p.cs.any fun c => deepF m c.2 := by simp [deepF, h11]
    rw [hD]
    obtain ⟨RR, hRR⟩ : ∃ RR, (l.any fun p => decide (200 < p.cs.length) || p.cs.any fun c => deepF m c.2) = RR := ⟨_, rfl⟩
    rw [hRR]
    have HRR := Lib.hid hRR
    have hg : ¬ (1100 : Int) < (l.length : Int) := by omega
    clear hD hRR h11
    go_enter Tryz.func10, Tryz.ntmps10
    go_wp2
    go_loopw [21] (fun iv wr => ∃ k : Nat, k ≤ l.length ∧ iv = .int .i64 k ∧ Keep [] w wr ∧ ((l.drop k).any fun p => decide (200 < p.cs.length) || p.cs.any fun c => deepF m c.2) = RR) (fun iv _ => l.length - (intOf iv).toNat)
    case atStart => exact ⟨0, Nat.zero_le _, rfl, Keep.refl _ _, HRR.out⟩
    case round =>
      obtain ⟨k, hk, rfl, hK, hR⟩ := hrel
      have HK := Lib.hid hK
      by_cases hlt : k < l.length
      · obtain ⟨p, hp⟩ : ∃ p, l[k]? = some p := ⟨_, List.getElem?_eq_getElem hlt⟩
        have HLT := Lib.hid hlt
        rw [drop_some hp, List.any_cons] at hR
        have HR := Lib.hid hR
        obtain ⟨b, o, cv, rfl, hb, hP, hC⟩ := HAT.out k p hp
        obtain ⟨a0, a1, a2, a3, a4, a5, a6⟩ := PAt.keep hP hK hb
        obtain ⟨CA, cc, rfl, hcm, hcat⟩ := liesC_open hC
        have HCAT := Lib.hid hcat
        clear hP hC hcat hR hK hp
        go_upto_region 6 with fail
        have hx1 : Blk (wr.alloc (.cells #[.int .i64 p.k, .string p.tx, .string p.nm, .string p.ty, .string p.st, .int .i64 p.off, .slice CA p.cs.length cc] 68)) wr.heap.size 68 #[.int .i64 p.k, .string p.tx, .string p.nm, .string p.ty, .string p.st, .int .i64 p.off, .slice CA p.cs.length cc] := Blk.new _ _ _
        have hkx : Keep [] wr (wr.alloc (.cells #[.int .i64 p.k, .string p.tx, .string p.nm, .string p.ty, .string p.st, .int .i64 p.off, .slice CA p.cs.length cc] 68)) := (Keep.refl _ _).alloc _
        generalize wr.alloc (.cells #[.int .i64 p.k, .string p.tx, .string p.nm, .string p.ty, .string p.st, .int .i64 p.off, .slice CA p.cs.length cc] 68) = W1 at *
        obtain ⟨pb, hpb⟩ : ∃ pb, wr.heap.size = pb := ⟨_, rfl⟩
        rw [hpb] at hx1 ⊢
        have x6 : W1.cell? ⟨pb, 6, none⟩ = some (.slice CA p.cs.length cc) := hx1.cell_eq rfl
        have hkw : Keep [] w W1 := HK.out.nil hkx
        have HKW := Lib.hid hkw
        clear a0 a1 a2 a3 a4 a5 a6 hx1 hkx hkw hpb
        by_cases h2 : 200 < p.cs.length
        · have hg2 : (200 : Int) < (p.cs.length : Int) := by omega
          have hT : true = RR := by have h := HR.out; rw [decide_eq_true h2] at h; simpa using h
          subst hT
          clear h2
          go_wp2
          go_ret
          exact ⟨rfl, HKW.out⟩
        · have hg2 : ¬ (200 : Int) < (p.cs.length : Int) := by omega
          have hR2 := HR.out
          rw [decide_eq_false h2, Bool.false_or] at hR2
          have HR2 := Lib.hid hR2
          have hcl : p.cs.length ≤ 200 := by omega
          clear h2 hR2
          go_wp2
          go_loopw [32] (fun iv wr => ∃ t : Nat, t ≤ p.cs.length ∧ iv = .int .i64 t ∧ Keep [] w wr ∧ (((p.cs.drop t).any fun c => deepF m c.2) || (l.drop (k + 1)).any fun p => decide (200 < p.cs.length) || p.cs.any fun c => deepF m c.2) = RR) (fun iv _ => p.cs.length - (intOf iv).toNat)
          case atStart => exact ⟨0, Nat.zero_le _, rfl, HKW.out, HR2.out⟩
          case round =>
            obtain ⟨t, ht, rfl, hK2, hR3⟩ := hrel
            have HK2 := Lib.hid hK2
            by_cases htl : t < p.cs.length
            · obtain ⟨c, hc⟩ : ∃ c, p.cs[t]? = some c := ⟨_, List.getElem?_eq_getElem htl⟩
              have HTL := Lib.hid htl
              rw [drop_some hc, List.any_cons, Bool.or_assoc] at hR3
              have HR3 := Lib.hid hR3
              obtain ⟨b2, o2, pv, rfl, hb2, e0, e1, hL⟩ := HCAT.out t c hc
              have a0 := (hK2.cell (p := ⟨b2, o2 + t * 2, none⟩) hb2 (by simp)).trans e0
              have a1 := (hK2.cell (p := ⟨b2, o2 + t * 2 + 1, none⟩) hb2 (by simp)).trans e1
              obtain ⟨PA, pm, pc, rfl⟩ := hL.form
              have HCALL : Hid (∀ W, Keep [] w W → Calls Tryz.prog 10 #[.slice PA pm pc, .int .i64 m] W fun e w' => e = .returned (.bool (deepF m c.2)) ∧ Keep [] W w') := fun W hW => HIH.out n c.2 S _ W (hL.keep hW (by simp))
              have hk3 : Keep [] wr (wr.alloc (.cells #[.string c.1, .slice PA pm pc] 70)) := (Keep.refl _ _).alloc _
              have HK3 := Lib.hid (HK2.out.nil hk3)
              obtain ⟨db, hdb⟩ : ∃ db, deepF m c.2 = db := ⟨_, rfl⟩
              rw [hdb] at HCALL HR3
              clear e0 e1 hL hc hK2 hR3 hk3 hdb
              cases db with
              | true =>
                have hT : true = RR := by have h := HR3.out; simpa using h
                subst hT
                go_wp2_with (go_at_call 10; refine (HCALL.out _ HK3.out).mono ?_; rintro e w5 ⟨rfl, hk5⟩; have HK5 := Lib.hid hk5; clear hk5)
                go_ret
                exact ⟨rfl, HK3.out.nil HK5.out⟩
              | false =>
                have hR4 := HR3.out
                rw [Bool.false_or] at hR4
                have HR4 := Lib.hid hR4
                clear hR4
                go_wp2_with (go_at_call 10; refine (HCALL.out _ HK3.out).mono ?_; rintro e w5 ⟨rfl, hk5⟩; have HK5 := Lib.hid hk5; clear hk5)
                go_roundw
                case rel => exact ⟨t + 1, HTL.out, by go_num, HK3.out.nil HK5.out, HR4.out⟩
                case measure => simp [intOf]; have := HTL.out; omega
            · obtain rfl : t = p.cs.length := by omega
              rw [List.drop_length, List.any_nil, Bool.false_or] at hR3
              have HR3 := Lib.hid hR3
              clear hR3 hK2
              go_wp2
              go_roundw
              case rel => exact ⟨k + 1, HLT.out, by go_num, HK2.out, HR3.out⟩
              case measure => simp [intOf]; have := HLT.out; omega
      · obtain rfl : k = l.length := by omega
        rw [List.drop_length, List.any_nil] at hR
        subst hR
        clear hK
        go_wp2
        go_ret
        exact ⟨rfl, HK.out⟩
theorem deep_any : ∀ m, m ≤ 1000 → DpC m
  | 0, _ => deep_zero
  | m + 1, h => deep_step m (by omega) (deep_any m (by omega))
set_option maxRecDepth 100000 in
/-- The first bytes of bytes that are read. -/
theorem slice_headU {S : Nat → Prop} {w : World} {v : Value} {l : List UInt8} (h : RdC S w v l.length (l.map cellU)) (n : Nat) (hn : n ≤ l.length) :
    ∃ v', (∀ W, (Instr.slice 25 v none (some (.int .i64 (n : Int))) none).run Tryz.prog W = .ok v' W) ∧ RdC S w v' (l.take n).length ((l.take n).map cellU) := by
  obtain ⟨A, cap, rfl, h1, h2, h3⟩ := h
  have ht' : Tryz.prog.underlying 25 = some (.slice (Tryz.prog.elem 25)) := by simp [Program.elem, Tryz.underlying25]
  have hz : ∀ W, (Go.sizeOf (Tryz.prog.elem 25)).run Tryz.prog W = .ok 1 W := fun W => rfl
  have hlen : (l.take n).length = n := by simp; omega
  refine ⟨.slice A n cap, fun W => ?_, A, cap, by rw [hlen], by rw [hlen]; omega, h2, fun hx => ?_⟩
  · rw [run_slice_h W _ _ _ _ ht' .i64 _ (by omega) (by omega), hz]
    simp [Go.sliced, Result.andThen]
    intro _
    cases A with
    | none => rfl
    | some ad => exact congrArg some (by unfold Addr.add; simp)
  · rw [hlen] at hx
    obtain ⟨b, o, rfl, hS, hlt, hc⟩ := h3 (by omega)
    refine ⟨b, o, rfl, hS, hlt, fun j u hu => hc j u ?_⟩
    rw [List.map_take] at hu
    have hj : j < n := by
      have := (List.getElem?_eq_some_iff.1 hu).1
      rw [List.length_take] at this
      omega
    rw [List.getElem?_take_of_lt hj] at hu
    exact hu
set_option maxRecDepth 100000 in
set_option maxHeartbeats 1000000 in
/-- cut. -/
theorem cut_any (w : World) (v : Value) (b : List UInt8) (h : RdU w v b) :
    Calls Tryz.prog 21 #[v] w fun e w' => ∃ v', e = .returned v' ∧ RdU w' v' (b.take 4000) ∧ w = w' := by
  have h' := h
  obtain ⟨A, cap, rfl, _⟩ := h'
  obtain ⟨v', hs, hr⟩ := slice_headU h (min b.length 4000) (Nat.min_le_left _ _)
  have hm : min (b.length : Int) 4000 = ((min b.length 4000 : Nat) : Int) := by omega
  have htk : b.take (min b.length 4000) = b.take 4000 := by
    by_cases h4 : b.length ≤ 4000
    · rw [Nat.min_eq_left h4, List.take_length, List.take_of_length_le h4]
    · rw [Nat.min_eq_right (by omega)]
  rw [htk] at hr
  generalize min b.length 4000 = m at *
  have HR := Lib.hid hr
  clear h hr htk
  go_enter Tryz.func21, Tryz.ntmps21
  go_wp2
  go_ret
  exact ⟨_, rfl, HR.out, rfl⟩
end Go.Proofs.YtmfoiceofhcicaaGreatDoor

namespace Go.Proofs.YtmfoiceofhcicaaGreatDoor

/-- Parts are at most n deep. -/
def Dp : Nat → List PT → Prop
  | 0, _ => False
  | n + 1, l => ∀ p ∈ l, ∀ c ∈ p.cs, Dp n c.2
theorem Dp.le : ∀ {n m : Nat} {l : List PT}, Dp n l → n ≤ m → Dp m l
  | 0, _, _, h, _ => h.elim
  | _ + 1, 0, _, _, h => absurd h (by omega)
  | _ + 1, _ + 1, _, h, hm => fun p hp c hc => (h p hp c hc).le (by omega)
theorem Lies.dp : ∀ {n : Nat} {S : Nat → Prop} {w : World} {v : Value} {l : List PT}, Lies n S w v l → Dp n l
  | 0, _, _, _, _, h => h.elim
  | n + 1, S, w, v, l, ⟨vs, hvl, _, hc⟩ => fun p hp c hcm => by
    obtain ⟨i, hi⟩ := List.mem_iff_getElem?.1 hp
    have hil := (List.getElem?_eq_some_iff.1 hi).1
    obtain ⟨us, hul, _, h3⟩ := hc i p _ hi (List.getElem?_eq_getElem (by omega))
    obtain ⟨j, hj⟩ := List.mem_iff_getElem?.1 hcm
    have hjl := (List.getElem?_eq_some_iff.1 hj).1
    exact (h3 j c _ hj (List.getElem?_eq_getElem (by omega))).dp
theorem caseR_congr {R R' : List PT → Bool} {k : Int} : ∀ (cs : List CT) (ks : List ByteArray), (∀ c ∈ cs, R c.2 = R' c.2) → caseR R k ks cs = caseR R' k ks cs
  | [], _, _ => rfl
  | c :: cs, ks, h => by
    simp only [caseR]
    rw [h c (List.mem_cons_self ..), caseR_congr cs _ fun d hd => h d (List.mem_cons_of_mem _ hd)]
theorem rightL_congr {R R' : List PT → Bool → Bool} {h : Bool} : ∀ (l : List PT) (q : Int), (∀ p ∈ l, ∀ c ∈ p.cs, ∀ h, R c.2 h = R' c.2 h) → rightL R h q l = rightL R' h q l
  | [], _, _ => rfl
  | p :: l, q, hh => by
    simp only [rightL]
    rw [caseR_congr (R' := fun m => R' m (decide (p.k ≠ 4))) p.cs [] fun c hc => hh p (List.mem_cons_self ..) c hc _, rightL_congr l _ fun p' hp => hh p' (List.mem_cons_of_mem _ hp)]
theorem right_dp : ∀ (n m : Nat) (l : List PT) (h : Bool), Dp n l → Dp m l → rightF n l h = rightF m l h
  | 0, _, _, _, h, _ => h.elim
  | _, 0, _, _, _, h => h.elim
  | n + 1, m + 1, l, _, h1, h2 => rightL_congr l 0 fun p hp c hc h' => right_dp n m c.2 h' (h1 p hp c hc) (h2 p hp c hc)
theorem sumC_congr {S S' : List PT → Nat} : ∀ (cs : List CT), (∀ c ∈ cs, S c.2 = S' c.2) → sumC S cs = sumC S' cs
  | [], _ => rfl
  | c :: cs, h => by
    simp only [sumC]
    rw [h c (List.mem_cons_self ..), sumC_congr cs fun d hd => h d (List.mem_cons_of_mem _ hd)]
theorem sumL_congr {S S' : List PT → Nat} : ∀ (l : List PT), (∀ p ∈ l, ∀ c ∈ p.cs, S c.2 = S' c.2) → sumL S l = sumL S' l
  | [], _ => rfl
  | p :: l, h => by
    simp only [sumL]
    rw [sumC_congr p.cs (h p (List.mem_cons_self ..)), sumL_congr l fun p' hp => h p' (List.mem_cons_of_mem _ hp)]
theorem size_dp : ∀ (n m : Nat) (l : List PT), Dp n l → Dp m l → sizeF n l = sizeF m l
  | 0, _, _, h, _ => h.elim
  | _, 0, _, _, h => h.elim
  | n + 1, m + 1, l, h1, h2 => by
    show l.length + sumL (sizeF n) l = l.length + sumL (sizeF m) l
    rw [sumL_congr l fun p hp c hc => size_dp n m c.2 (h1 p hp c hc) (h2 p hp c hc)]
theorem mostC_congr {D D' : List PT → Nat} : ∀ (cs : List CT) (m : Nat), (∀ c ∈ cs, D c.2 = D' c.2) → mostC D m cs = mostC D' m cs
  | [], _, _ => rfl
  | c :: cs, m, h => by
    simp only [mostC]
    rw [h c (List.mem_cons_self ..), mostC_congr cs _ fun d hd => h d (List.mem_cons_of_mem _ hd)]
theorem casesP_sub {p : PT} {c : CT} (h : c ∈ casesP p) : c ∈ p.cs := by
  unfold casesP at h
  split at h
  · simp at h
  · exact h
theorem mostL_congr {D D' : List PT → Nat} : ∀ (l : List PT) (m : Nat), (∀ p ∈ l, ∀ c ∈ p.cs, D c.2 = D' c.2) → mostL D m l = mostL D' m l
  | [], _, _ => rfl
  | p :: l, m, h => by
    simp only [mostL]
    rw [mostC_congr (casesP p) m fun c hc => h p (List.mem_cons_self ..) c (casesP_sub hc), mostL_congr l _ fun p' hp => h p' (List.mem_cons_of_mem _ hp)]
theorem depth_dp : ∀ (n m : Nat) (l : List PT), Dp n l → Dp m l → depthF n l = depthF m l
  | 0, _, _, h, _ => h.elim
  | _, 0, _, _, h => h.elim
  | n + 1, m + 1, l, h1, h2 => mostL_congr l 0 fun p hp c hc => depth_dp n m c.2 (h1 p hp c hc) (h2 p hp c hc)
theorem caseW_congr {W W' : List PT → List UInt8} : ∀ (cs : List CT) (b : Bool), (∀ c ∈ cs, W c.2 = W' c.2) → caseW W b cs = caseW W' b cs
  | [], _, _ => rfl
  | c :: cs, b, h => by
    simp only [caseW]
    rw [h c (List.mem_cons_self ..), caseW_congr cs _ fun d hd => h d (List.mem_cons_of_mem _ hd)]
theorem writeL_congr {W W' : List PT → Bool → List UInt8} {h : Bool} : ∀ (l : List PT), (∀ p ∈ l, ∀ c ∈ p.cs, ∀ h, W c.2 h = W' c.2 h) → writeL W h l = writeL W' h l
  | [], _ => rfl
  | p :: l, hh => by
    have e : partW W h p = partW W' h p := by
      unfold partW
      rw [caseW_congr (W' := fun m => W' m (decide (p.k ≠ 4))) p.cs false fun c hc => hh p (List.mem_cons_self ..) c hc _]
    simp only [writeL]
    rw [e, writeL_congr l fun p' hp => hh p' (List.mem_cons_of_mem _ hp)]
theorem write_dp : ∀ (n m : Nat) (l : List PT) (h : Bool), Dp n l → Dp m l → writeF n l h = writeF m l h
  | 0, _, _, _, h, _ => h.elim
  | _, 0, _, _, _, h => h.elim
  | n + 1, m + 1, l, _, h1, h2 => writeL_congr l fun p hp c hc h' => write_dp n m c.2 h' (h1 p hp c hc) (h2 p hp c hc)
theorem form_dp {n m : Nat} {l : List PT} (h1 : Dp n l) (h2 : Dp m l) : formF n l = formF m l := by
  unfold formF
  rw [right_dp n m l false h1 h2, size_dp n m l h1 h2, depth_dp n m l h1 h2, write_dp n m l false h1 h2]
theorem caseT_congr {T T' : List PT → List ByteArray} : ∀ (cs : List CT), (∀ c ∈ cs, T c.2 = T' c.2) → caseT T cs = caseT T' cs
  | [], _ => rfl
  | c :: cs, h => by
    simp only [caseT]
    rw [h c (List.mem_cons_self ..), caseT_congr cs fun d hd => h d (List.mem_cons_of_mem _ hd)]
theorem textL_congr {T T' : List PT → List ByteArray} : ∀ (l : List PT), (∀ p ∈ l, ∀ c ∈ p.cs, T c.2 = T' c.2) → textL T l = textL T' l
  | [], _ => rfl
  | p :: l, h => by
    have e : partT T p = partT T' p := by
      unfold partT
      rw [caseT_congr p.cs (h p (List.mem_cons_self ..))]
    simp only [textL]
    rw [e, textL_congr l fun p' hp => h p' (List.mem_cons_of_mem _ hp)]
theorem text_dp : ∀ (n m : Nat) (l : List PT), Dp n l → Dp m l → textF n l = textF m l
  | 0, _, _, h, _ => h.elim
  | _, 0, _, _, h => h.elim
  | n + 1, m + 1, l, h1, h2 => textL_congr l fun p hp c hc => text_dp n m c.2 (h1 p hp c hc) (h2 p hp c hc)
theorem lenC_congr {L L' : List PT → Nat} : ∀ (cs : List CT), (∀ c ∈ cs, L c.2 = L' c.2) → lenC L cs = lenC L' cs
  | [], _ => rfl
  | c :: cs, h => by
    simp only [lenC]
    rw [h c (List.mem_cons_self ..), lenC_congr cs fun d hd => h d (List.mem_cons_of_mem _ hd)]
theorem lenP_congr {L L' : List PT → Nat} {p : PT} (h : ∀ c ∈ p.cs, L c.2 = L' c.2) : lenP L p = lenP L' p := by
  unfold lenP
  rw [lenC_congr p.cs h]
theorem lenL_congr {L L' : List PT → Nat} : ∀ (l : List PT), (∀ p ∈ l, ∀ c ∈ p.cs, L c.2 = L' c.2) → lenL L l = lenL L' l
  | [], _ => rfl
  | p :: l, h => by
    simp only [lenL]
    rw [lenP_congr (h p (List.mem_cons_self ..)), lenL_congr l fun p' hp => h p' (List.mem_cons_of_mem _ hp)]
theorem len_dp : ∀ (n m : Nat) (l : List PT), Dp n l → Dp m l → lenF n l = lenF m l
  | 0, _, _, h, _ => h.elim
  | _, 0, _, _, h => h.elim
  | n + 1, m + 1, l, h1, h2 => lenL_congr l fun p hp c hc => len_dp n m c.2 (h1 p hp c hc) (h2 p hp c hc)
theorem headC_congr {P : List ByteArray} {L L' : List PT → Nat} : ∀ (cs : List CT) (a : Nat), (∀ c ∈ cs, L c.2 = L' c.2) → headC P L a cs = headC P L' a cs
  | [], _, _ => rfl
  | c :: cs, a, h => by
    simp only [headC]
    rw [h c (List.mem_cons_self ..), headC_congr cs _ fun d hd => h d (List.mem_cons_of_mem _ hd)]
theorem bodyC_congr {E E' : Nat → List PT → List UInt8} {L L' : List PT → Nat} {z : Nat} : ∀ (cs : List CT) (a : Nat), (∀ c ∈ cs, L c.2 = L' c.2) → (∀ c ∈ cs, ∀ a, E a c.2 = E' a c.2) → bodyC E L z a cs = bodyC E' L' z a cs
  | [], _, _, _ => rfl
  | c :: cs, a, h, h' => by
    simp only [bodyC]
    rw [h c (List.mem_cons_self ..), h' c (List.mem_cons_self ..), bodyC_congr cs _ (fun d hd => h d (List.mem_cons_of_mem _ hd)) fun d hd => h' d (List.mem_cons_of_mem _ hd)]
theorem codL_congr {P : List ByteArray} {E E' : InP → Nat → List PT → List UInt8} {L L' : List PT → Nat} {q : InP} : ∀ (l : List PT) (a : Nat), (∀ p ∈ l, ∀ c ∈ p.cs, L c.2 = L' c.2) → (∀ p ∈ l, ∀ c ∈ p.cs, ∀ q a, E q a c.2 = E' q a c.2) → codL P E L q a l = codL P E' L' q a l
  | [], _, _, _ => rfl
  | p :: l, a, h, h' => by
    have e0 := lenP_congr (h p (List.mem_cons_self ..))
    have e : codP P E L q a p = codP P E' L' q a p := by
      unfold codP
      rw [headC_congr p.cs _ (h p (List.mem_cons_self ..)), e0, bodyC_congr p.cs _ (h p (List.mem_cons_self ..)) fun c hc a => h' p (List.mem_cons_self ..) c hc _ a]
    simp only [codL]
    rw [e, e0, codL_congr l _ (fun p' hp => h p' (List.mem_cons_of_mem _ hp)) fun p' hp => h' p' (List.mem_cons_of_mem _ hp)]
theorem cod_dp (P : List ByteArray) : ∀ (n m : Nat) (l : List PT) (q : InP) (a : Nat), Dp n l → Dp m l → codF P n q a l = codF P m q a l
  | 0, _, _, _, _, h, _ => h.elim
  | _, 0, _, _, _, _, h => h.elim
  | n + 1, m + 1, l, _, a, h1, h2 => codL_congr l a (fun p hp c hc => len_dp n m c.2 (h1 p hp c hc) (h2 p hp c hc)) fun p hp c hc q a => cod_dp P n m c.2 q a (h1 p hp c hc) (h2 p hp c hc)
theorem code_dp {n m : Nat} {l : List PT} (h1 : Dp n l) (h2 : Dp m l) : codeF n l = codeF m l := by
  unfold codeF
  rw [text_dp n m l h1 h2, len_dp n m l h1 h2, cod_dp _ n m l _ _ h1 h2]
theorem caseR_mem {R : List PT → Bool} {k : Int} {c : CT} : ∀ {cs : List CT} {ks : List ByteArray}, caseR R k ks cs = true → c ∈ cs → R c.2 = true
  | [], _, _, h => by simp at h
  | d :: cs, ks, h, hc => by
    simp only [caseR, Bool.and_eq_true] at h
    rcases List.mem_cons.1 hc with rfl | hc
    · exact h.1.2
    · exact caseR_mem h.2 hc
theorem rightL_mem {R : List PT → Bool → Bool} {h : Bool} {p : PT} : ∀ {l : List PT} {q : Int}, rightL R h q l = true → p ∈ l → plainB p h = true ∧ caseR (fun m => R m (decide (p.k ≠ 4))) p.k [] p.cs = true
  | [], _, _, hp => by simp at hp
  | x :: l, q, hr, hp => by
    simp only [rightL, Bool.and_eq_true] at hr
    rcases List.mem_cons.1 hp with rfl | hp
    · exact ⟨hr.1.1.1.1, hr.1.1.2⟩
    · exact rightL_mem hr.2 hp
theorem plain_cases {p : PT} {h : Bool} {c : CT} (hp : plainB p h = true) (hc : c ∈ p.cs) : c ∈ casesP p := by
  have hne : ¬ p.cs.length = 0 := fun h0 => by rw [List.eq_nil_of_length_eq_zero h0] at hc; simp at hc
  unfold casesP
  rw [if_neg]
  · exact hc
  · intro hk
    unfold plainB at hp
    split at hp
    · simp [hne] at hp
    split at hp
    · simp [hne] at hp
    split at hp
    · simp [hne] at hp
    split at hp
    · omega
    · cases hp
theorem shallow : ∀ (d n : Nat) (l : List PT) (h : Bool), rightF n l h = true → depthF n l ≤ d → Dp (d + 1) l
  | _, 0, _, _, hr, _ => by cases hr
  | d, n + 1, l, h, hr, hd => fun p hp c hc => by
    obtain ⟨h1, h2⟩ := rightL_mem hr hp
    have h3 := (mostL_le1 l 0 d hd).2 p hp c (plain_cases h1 hc)
    cases d with
    | zero => omega
    | succ d => exact shallow d n c.2 _ (caseR_mem h2 hc) (by omega)
/-- The code of a message that may be is read as that message. -/
theorem read_code {n : Nat} {l : List PT} (hn : Dp n l) (hf : (formF n l).2 = 0) : Dp 10 l ∧ codeF 10 l = codeF n l ∧ readF (codeF n l) = some (poolF (textF n l), codeO n l, l) := by
  obtain ⟨hr, hs, hd, hb⟩ := form_fine hf
  have h10 : Dp 10 l := (shallow 8 n l false hr hd).le (by omega)
  have hc := code_dp h10 hn
  have hF := form_dp h10 hn
  refine ⟨h10, hc, ?_⟩
  unfold readF
  rw [code_list hr (by omega)]
  have hl : liftM (codeO n l) = some l := by
    unfold liftM
    rw [code_lift hr hd _ (Nat.le_succ _)]
    rfl
  simp only [hl]
  rw [if_pos ⟨by rw [hF]; exact hf, hc⟩]
theorem bulkC_congr {K K' : List PT → Nat} : ∀ (cs : List CT), (∀ c ∈ cs, K c.2 = K' c.2) → bulkC K cs = bulkC K' cs
  | [], _ => rfl
  | c :: cs, h => by
    simp only [bulkC]
    rw [h c (List.mem_cons_self ..), bulkC_congr cs fun d hd => h d (List.mem_cons_of_mem _ hd)]
theorem bulkL_congr {K K' : List PT → Nat} : ∀ (l : List PT), (∀ p ∈ l, ∀ c ∈ p.cs, K c.2 = K' c.2) → bulkL K l = bulkL K' l
  | [], _ => rfl
  | p :: l, h => by
    simp only [bulkL]
    rw [bulkC_congr p.cs (h p (List.mem_cons_self ..)), bulkL_congr l fun p' hp => h p' (List.mem_cons_of_mem _ hp)]
theorem bulk_dp : ∀ (n m : Nat) (l : List PT), Dp n l → Dp m l → bulkF n l = bulkF m l
  | 0, _, _, h, _ => h.elim
  | _, 0, _, _, h => h.elim
  | n + 1, m + 1, l, h1, h2 => bulkL_congr l fun p hp c hc => bulk_dp n m c.2 (h1 p hp c hc) (h2 p hp c hc)
theorem readF_some {b : List UInt8} {P : List ByteArray} {ops : List OT} {l : List PT} (h : readF b = some (P, ops, l)) : listR b = some (P, ops) ∧ liftM ops = some l ∧ (formF 10 l).2 = 0 ∧ codeF 10 l = b := by
  unfold readF at h
  cases hl : listR b with
  | none => rw [hl] at h; cases h
  | some x =>
    obtain ⟨P', ops'⟩ := x
    rw [hl] at h
    simp only at h
    cases hm : liftM ops' with
    | none => rw [hm] at h; cases h
    | some l' =>
      rw [hm] at h
      simp only at h
      split at h
      · rename_i hc
        simp only [Option.some.injEq, Prod.mk.injEq] at h
        obtain ⟨rfl, rfl, rfl⟩ := h
        exact ⟨rfl, hm, hc⟩
      · cases h
/-- A code of a message that may be says a small message. -/
theorem small_code {n : Nat} {l : List PT} (hn : Dp n l) (hf : (formF n l).2 = 0) : SmallB (codeF n l) := fun P ops m hl hm => by
  obtain ⟨h10, hc, hr⟩ := read_code hn hf
  obtain ⟨-, -, -, hb⟩ := form_fine hf
  obtain ⟨e1, e2, -, -⟩ := readF_some hr
  rw [e1] at hl
  injection hl with hl
  injection hl with _ hl
  subst hl
  rw [e2] at hm
  injection hm with hm
  subst hm
  rw [bulk_dp 10 n l h10 hn]
  omega
end Go.Proofs.YtmfoiceofhcicaaGreatDoor

namespace Go.Proofs.YtmfoiceofhcicaaGreatDoor
open Go.RowKit

/-- Cases that are the same. -/
def sameC (K : List PT → List PT → Bool) : List CT → List CT → Bool
  | [], [] => true
  | c :: cs, d :: ds => decide (c.1 = d.1) && K c.2 d.2 && sameC K cs ds
  | _, _ => false
/-- Two parts that are the same. -/
def sameP (K : List PT → List PT → Bool) (p q : PT) : Bool :=
  decide (p.k = q.k) && decide (p.tx = q.tx) && decide (p.nm = q.nm) && decide (p.ty = q.ty) && decide (p.st = q.st) && decide (p.off = q.off) && sameC K p.cs q.cs
def sameL (K : List PT → List PT → Bool) : List PT → List PT → Bool
  | [], [] => true
  | p :: a, q :: b => sameP K p q && sameL K a b
  | _, _ => false
def sameF : Nat → List PT → List PT → Bool
  | 0, _, _ => true
  | n + 1, a, b => sameL (sameF n) a b
theorem sameC_refl {K : List PT → List PT → Bool} (h : ∀ l, K l l = true) : ∀ cs, sameC K cs cs = true
  | [] => rfl
  | c :: cs => by simp [sameC, h c.2, sameC_refl h cs]
theorem sameL_refl {K : List PT → List PT → Bool} (h : ∀ l, K l l = true) : ∀ l, sameL K l l = true
  | [] => rfl
  | p :: l => by simp [sameL, sameP, sameC_refl h p.cs, sameL_refl h l]
theorem sameC_len {K : List PT → List PT → Bool} : ∀ {a b : List CT}, a.length ≠ b.length → sameC K a b = false
  | [], [], h => absurd rfl h
  | [], _ :: _, _ => rfl
  | _ :: _, [], _ => rfl
  | c :: cs, d :: ds, h => by simp [sameC, sameC_len (K := K) (a := cs) (b := ds) (by simpa using h)]
theorem sameL_len {K : List PT → List PT → Bool} : ∀ {a b : List PT}, a.length ≠ b.length → sameL K a b = false
  | [], [], h => absurd rfl h
  | [], _ :: _, _ => rfl
  | _ :: _, [], _ => rfl
  | c :: cs, d :: ds, h => by simp [sameL, sameL_len (K := K) (a := cs) (b := ds) (by simpa using h)]
theorem sameC_drop {K : List PT → List PT → Bool} {a b : List CT} {i : Nat} {c d : CT} (h1 : a[i]? = some c) (h2 : b[i]? = some d) : sameC K (a.drop i) (b.drop i) = (decide (c.1 = d.1) && K c.2 d.2 && sameC K (a.drop (i + 1)) (b.drop (i + 1))) := by
  obtain ⟨g1, rfl⟩ := List.getElem?_eq_some_iff.1 h1
  obtain ⟨g2, rfl⟩ := List.getElem?_eq_some_iff.1 h2
  rw [List.drop_eq_getElem_cons g1, List.drop_eq_getElem_cons g2]
  rfl
theorem sameL_drop {K : List PT → List PT → Bool} {a b : List PT} {i : Nat} {c d : PT} (h1 : a[i]? = some c) (h2 : b[i]? = some d) : sameL K (a.drop i) (b.drop i) = (sameP K c d && sameL K (a.drop (i + 1)) (b.drop (i + 1))) := by
  obtain ⟨g1, rfl⟩ := List.getElem?_eq_some_iff.1 h1
  obtain ⟨g2, rfl⟩ := List.getElem?_eq_some_iff.1 h2
  rw [List.drop_eq_getElem_cons g1, List.drop_eq_getElem_cons g2]
  rfl

/-- All that r asks, s asks: the keys, and something where something is asked. -/
def Over (r s : List PR) : Prop := ∀ q ∈ r, ∃ p ∈ s, p.1 = q.1 ∧ (q.2 ≠ ⟨#[]⟩ → p.2 ≠ ⟨#[]⟩)
/-- All that r asks, s asks, word for word. -/
def Stays (r s : List PR) : Prop := ∀ q ∈ r, ∃ p ∈ s, p.1 = q.1 ∧ (q.2 ≠ ⟨#[]⟩ → p.2 = q.2)
theorem mem_putR {p q : PR} : ∀ {r : List PR}, Rise r → (q ∈ putR r p ↔ if ∃ x ∈ r, x.1 = p.1 then ∃ x ∈ r, q = updB p x else q = p ∨ q ∈ r) := by
  intro r hr
  by_cases h : ∃ x ∈ r, x.1 = p.1
  · rw [if_pos h, putR_mem hr (by obtain ⟨x, hx, e⟩ := h; rw [← e]; exact List.mem_map_of_mem hx), List.mem_map]
    constructor
    · rintro ⟨x, hx, rfl⟩; exact ⟨x, hx, rfl⟩
    · rintro ⟨x, hx, rfl⟩; exact ⟨x, hx, rfl⟩
  · rw [if_neg h, (putR_not fun hm => h (by obtain ⟨x, hx, e⟩ := List.mem_map.1 hm; exact ⟨x, hx, e⟩)).mem_iff, List.mem_cons]
theorem Stays.put {r s : List PR} (hs : Rise s) (h : Stays r s) (p : PR) : Stays r (putR s p) := fun q hq => by
  obtain ⟨x, hx, e1, e2⟩ := h q hq
  by_cases hp : ∃ y ∈ s, y.1 = p.1
  · refine ⟨updB p x, (mem_putR hs).2 (by rw [if_pos hp]; exact ⟨x, hx, rfl⟩), by rw [updB_key, e1], fun hne => ?_⟩
    have := e2 hne
    unfold updB
    split
    · simp only
      rw [if_neg (by rw [this]; exact hne), this]
    · exact this
  · exact ⟨x, (mem_putR hs).2 (by rw [if_neg hp]; exact .inr hx), e1, e2⟩
theorem Over.put {r s : List PR} (hr : Rise r) (hs : Rise s) (h : Over r s) (p : PR) : Over (putR r p) (putR s p) := fun q hq => by
  rw [mem_putR hr] at hq
  have new : ∃ x ∈ putR s p, x.1 = p.1 ∧ (p.2 ≠ ⟨#[]⟩ → x.2 ≠ ⟨#[]⟩) := by
    by_cases hp : ∃ y ∈ s, y.1 = p.1
    · obtain ⟨y, hy, e⟩ := hp
      refine ⟨updB p y, (mem_putR hs).2 (by rw [if_pos ⟨y, hy, e⟩]; exact ⟨y, hy, rfl⟩), by rw [updB_key, e], fun hne => ?_⟩
      unfold updB
      rw [if_pos e]
      simp only
      split
      · exact hne
      · assumption
    · exact ⟨p, (mem_putR hs).2 (by rw [if_neg hp]; exact .inl rfl), rfl, fun h => h⟩
  have old : ∀ x ∈ r, ∃ y ∈ putR s p, y.1 = x.1 ∧ (x.2 ≠ ⟨#[]⟩ → y.2 ≠ ⟨#[]⟩) := fun x hx => by
    obtain ⟨y, hy, e1, e2⟩ := h x hx
    by_cases hp : ∃ y ∈ s, y.1 = p.1
    · refine ⟨updB p y, (mem_putR hs).2 (by rw [if_pos hp]; exact ⟨y, hy, rfl⟩), by rw [updB_key, e1], fun hne => ?_⟩
      unfold updB
      split
      · simp only
        split
        · rename_i h2; exact absurd h2 (e2 hne)
        · exact e2 hne
      · exact e2 hne
    · exact ⟨y, (mem_putR hs).2 (by rw [if_neg hp]; exact .inr hy), e1, e2⟩
  split at hq
  · obtain ⟨x, hx, rfl⟩ := hq
    by_cases hk : x.1 = p.1
    · by_cases h2 : x.2 = ⟨#[]⟩
      · obtain ⟨y, hy, e1, e2⟩ := new
        refine ⟨y, hy, by rw [updB_key, hk, e1], fun hne => e2 ?_⟩
        unfold updB at hne
        rw [if_pos hk, if_pos h2] at hne
        exact hne
      · obtain ⟨y, hy, e1, e2⟩ := old x hx
        exact ⟨y, hy, by rw [updB_key, e1], fun _ => e2 h2⟩
    · rw [updB_ne hk]
      exact old x hx
  · rcases hq with rfl | hq
    · exact new
    · exact old q hq
/-- Keys that are asked are those of r or of s. -/
def Within (t r s : List PR) : Prop := ∀ q ∈ t, (∃ p ∈ r, p.1 = q.1) ∨ ∃ p ∈ s, p.1 = q.1
theorem Within.put {t r s : List PR} (hs : Rise s) (h : Within t r s) (p : PR) : Within (putR t p) r (putR s p) := fun q hq => by
  have new : ∃ x ∈ putR s p, x.1 = p.1 := by
    by_cases hp : ∃ y ∈ s, y.1 = p.1
    · obtain ⟨y, hy, e⟩ := hp
      exact ⟨updB p y, (mem_putR hs).2 (by rw [if_pos ⟨y, hy, e⟩]; exact ⟨y, hy, rfl⟩), by rw [updB_key, e]⟩
    · exact ⟨p, (mem_putR hs).2 (by rw [if_neg hp]; exact .inl rfl), rfl⟩
  have old : ∀ y ∈ s, ∃ x ∈ putR s p, x.1 = y.1 := fun y hy => by
    by_cases hp : ∃ y ∈ s, y.1 = p.1
    · exact ⟨updB p y, (mem_putR hs).2 (by rw [if_pos hp]; exact ⟨y, hy, rfl⟩), by rw [updB_key]⟩
    · exact ⟨y, (mem_putR hs).2 (by rw [if_neg hp]; exact .inr hy), rfl⟩
  rcases putR_keys hq with e | ⟨y, hy, e⟩
  · obtain ⟨x, hx, e2⟩ := new
    exact .inr ⟨x, hx, by rw [e2, e]⟩
  · rcases h y hy with ⟨x, hx, e2⟩ | ⟨x, hx, e2⟩
    · exact .inl ⟨x, hx, by rw [e2, e]⟩
    · obtain ⟨z, hz, e3⟩ := old x hx
      exact .inr ⟨z, hz, by rw [e3, e2, e]⟩
/-- What holds of the names so far: t of both, r of the first, s of the second. -/
def Parted (t r s : List PR) : Prop := Rise t ∧ Rise s ∧ Stays r t ∧ Over s t ∧ Within t r s
theorem Parted.put {t r s : List PR} (h : Parted t r s) (p : PR) : Parted (putR t p) r (putR s p) :=
  ⟨h.1.put, h.2.1.put, h.2.2.1.put h.1 p, h.2.2.2.1.put h.2.1 h.1 p, h.2.2.2.2.put h.2.1 p⟩
theorem Parted.cases {K : List PT → List PR → List PR} {r : List PR} (hK : ∀ l t s, Parted t r s → Parted (K l t) r (K l s)) : ∀ (cs : List CT) {t s : List PR}, Parted t r s → Parted (cs.foldl (stepC K) t) r (cs.foldl (stepC K) s)
  | [], _, _, h => h
  | c :: cs, _, _, h => Parted.cases hK cs (hK c.2 _ _ h)
theorem Parted.parts {K : List PT → List PR → List PR} {r : List PR} (hK : ∀ l t s, Parted t r s → Parted (K l t) r (K l s)) : ∀ (l : List PT) {t s : List PR}, Parted t r s → Parted (l.foldl (stepN putR K) t) r (l.foldl (stepN putR K) s)
  | [], _, _, h => h
  | p :: l, t, s, h => by
    refine Parted.parts hK l (Parted.cases hK _ ?_)
    split
    · exact h.put _
    · exact h
end Go.Proofs.YtmfoiceofhcicaaGreatDoor

namespace Go.Proofs.YtmfoiceofhcicaaGreatDoor
open Go.RowKit

/-- message.Same, of trees n deep. -/
def SmC (n : Nat) : Prop := ∀ (a b : List PT) (S T : Nat → Prop) (va vb : Value) (w : World), Lies n S w va a → Lies n T w vb b → bulkF n a ≤ 1000000000 → bulkF n b ≤ 1000000000 →
  Calls Tryz.prog 18 #[va, vb] w fun e w' => e = .returned (.bool (sameF n a b)) ∧ Keep [] w w'
set_option maxRecDepth 100000 in
set_option maxHeartbeats 1000000 in
/-- The closure on two cases. -/
theorem same2_any (n : Nat) (ih : SmC n) (c d : CT) (S T : Nat → Prop) (pv qv : Value) (w : World) (hc : Lies n S w pv c.2) (hd : Lies n T w qv d.2) (hb : bulkF n c.2 ≤ 1000000000) (hb2 : bulkF n d.2 ≤ 1000000000) :
    Calls Tryz.prog 40 #[.agg #[.string c.1, pv], .agg #[.string d.1, qv]] w fun e w' => e = .returned (.bool (decide (c.1 = d.1) && sameF n c.2 d.2)) ∧ Keep [] w w' := by
  obtain ⟨A1, m1, k1, rfl⟩ := hc.form
  obtain ⟨A2, m2, k2, rfl⟩ := hd.form
  have hbe := bytes_beq c.1 d.1
  have HIH : ∀ W, Keep [] w W → Hid (Calls Tryz.prog 18 #[.slice A1 m1 k1, .slice A2 m2 k2] W fun e w' => e = .returned (.bool (sameF n c.2 d.2)) ∧ Keep [] W w') := fun W hW => ih c.2 d.2 S T _ _ W (hc.keep hW (by simp)) (hd.keep hW (by simp)) hb hb2
  clear hc hd ih
  generalize sameF n c.2 d.2 = sr at *
  have hk2 : Keep [] w ((w.alloc (.cells #[.string c.1, .slice A1 m1 k1] 70)).alloc (.cells #[.string d.1, .slice A2 m2 k2] 70)) := ((Keep.refl _ _).alloc _).alloc _
  have HK2 := Lib.hid hk2
  clear hk2
  by_cases he : c.1 = d.1
  · rw [decide_eq_true he] at hbe ⊢
    clear he
    go_enter Tryz.func40, Tryz.ntmps40
    go_wp2_with (go_at_call 18; refine (HIH _ HK2.out).out.mono ?_; rintro e w5 ⟨rfl, hk5⟩; have HK5 := Lib.hid hk5; clear hk5)
    go_ret
    exact ⟨by simp, HK2.out.nil HK5.out⟩
  · rw [decide_eq_false he] at hbe ⊢
    clear he
    go_enter Tryz.func40, Tryz.ntmps40
    go_wp2
    go_ret
    exact ⟨by simp, HK2.out⟩
set_option maxRecDepth 100000 in
set_option maxHeartbeats 1000000 in
/-- slices.EqualFunc over cases. -/
theorem eqCase_any (n : Nat) (ih : SmC n) (cs ds : List CT) (S T : Nat → Prop) (cv dv : Value) (w : World) (hc : LiesC n S w cv cs) (hd : LiesC n T w dv ds) (hb : bulkC (bulkF n) cs ≤ 1000000000) (hb2 : bulkC (bulkF n) ds ≤ 1000000000) :
    Calls Tryz.prog 39 #[cv, dv, .func (.func 40) #[] #[]] w fun e w' => e = .returned (.bool (sameC (sameF n) cs ds)) ∧ Keep [] w w' := by
  have hK : ∀ args w, (callFunc 40 args).run Tryz.prog w = .ok (.enter 40 args) w := enters_of Tryz.func40 (by kernel_rfl) rfl
  obtain ⟨A1, k1, rfl, _, hat1⟩ := liesC_open hc
  obtain ⟨A2, k2, rfl, _, hat2⟩ := liesC_open hd
  have hl1 := bulkC_len (bulkF n) cs
  have hl2 := bulkC_len (bulkF n) ds
  have HAT1 := Lib.hid hat1
  have HAT2 := Lib.hid hat2
  have HIH : Hid (SmC n) := ih
  have HB1 := Lib.hid hb
  have HB2 := Lib.hid hb2
  have hll1 : cs.length ≤ 1000000000 := by omega
  have hll2 : ds.length ≤ 1000000000 := by omega
  clear hc hd hat1 hat2 ih hb hb2 hl1 hl2
  by_cases hl : cs.length = ds.length
  case neg =>
    have HR : Hid (sameC (sameF n) cs ds = false) := sameC_len hl
    have hne : ((cs.length : Int) != ds.length) = true := by simp; omega
    go_enter Tryz.func39, Tryz.ntmps39
    go_wp2
    go_ret
    exact ⟨by rw [HR.out]; rfl, Keep.refl _ _⟩
  obtain ⟨RR, hRR⟩ : ∃ RR, sameC (sameF n) cs ds = RR := ⟨_, rfl⟩
  rw [hRR]
  have HRR := Lib.hid hRR
  have HL := Lib.hid hl
  have hne : ((cs.length : Int) != ds.length) = false := by simp; omega
  clear hRR hl
  go_enter Tryz.func39, Tryz.ntmps39
  go_wp2
  go_loopw [17] (fun i wr => ∃ m : Nat, m ≤ cs.length ∧ i = .int .i64 m ∧ Keep [] w wr ∧ sameC (sameF n) (cs.drop m) (ds.drop m) = RR) (fun i _ => cs.length - (intOf i).toNat)
  case atStart => exact ⟨0, Nat.zero_le _, rfl, Keep.refl _ _, HRR.out⟩
  case round =>
    obtain ⟨m, hm, rfl, hK1, hF⟩ := hrel
    have HK1 := Lib.hid hK1
    have HF := Lib.hid hF
    clear hF
    by_cases hlt : m < cs.length
    · obtain ⟨c, hc⟩ : ∃ c, cs[m]? = some c := ⟨_, List.getElem?_eq_getElem hlt⟩
      obtain ⟨d, hd⟩ : ∃ d, ds[m]? = some d := ⟨_, List.getElem?_eq_getElem (by have := HL.out; omega)⟩
      have hlt2 : m < ds.length := by have := HL.out; omega
      obtain ⟨b1, o1, pv, rfl, hb1, e1, e2, hLc⟩ := HAT1.out m c hc
      obtain ⟨b2, o2, qv, rfl, hb2, g1, g2, hLd⟩ := HAT2.out m d hd
      replace e1 := (hK1.cell (p := ⟨b1, o1 + m * 2, none⟩) hb1 (by simp)).trans e1
      replace e2 := (hK1.cell (p := ⟨b1, o1 + m * 2 + 1, none⟩) hb1 (by simp)).trans e2
      replace g1 := (hK1.cell (p := ⟨b2, o2 + m * 2, none⟩) hb2 (by simp)).trans g1
      replace g2 := (hK1.cell (p := ⟨b2, o2 + m * 2 + 1, none⟩) hb2 (by simp)).trans g2
      have hbr1 := Nat.lt_of_lt_of_le hb1 hK1.size
      have hbr2 := Nat.lt_of_lt_of_le hb2 hK1.size
      obtain ⟨Ap, mp, kp, rfl⟩ := hLc.form
      obtain ⟨Aq, mq, kq, rfl⟩ := hLd.form
      have hbc := bulkC_at (bulkF n) cs m c hc
      have hbd := bulkC_at (bulkF n) ds m d hd
      have hbt := HB1.out
      have hbt2 := HB2.out
      have HC : ∀ W, Keep [] wr W → Hid (Calls Tryz.prog 40 #[.agg #[.string c.1, .slice Ap mp kp], .agg #[.string d.1, .slice Aq mq kq]] W fun e w' => e = .returned (.bool (decide (c.1 = d.1) && sameF n c.2 d.2)) ∧ Keep [] W w') := fun W hW => same2_any n HIH.out c d S T _ _ W ((hLc.keep hK1 (by simp)).keep hW (by simp)) ((hLd.keep hK1 (by simp)).keep hW (by simp)) (by omega) (by omega)
      have hF2 := HF.out
      rw [sameC_drop hc hd] at hF2
      have c2 : (wr.alloc (.cells #[.string c.1, .slice Ap mp kp] 70)).cell? ⟨b2, o2 + m * 2, none⟩ = some (.string d.1) := (((Keep.refl [] wr).alloc _).cell (p := ⟨b2, o2 + m * 2, none⟩) hbr2 (by simp)).trans g1
      have c3 : (wr.alloc (.cells #[.string c.1, .slice Ap mp kp] 70)).cell? ⟨b2, o2 + m * 2 + 1, none⟩ = some (.slice Aq mq kq) := (((Keep.refl [] wr).alloc _).cell (p := ⟨b2, o2 + m * 2 + 1, none⟩) hbr2 (by simp)).trans g2
      have hk3 : Keep [] wr ((wr.alloc (.cells #[.string c.1, .slice Ap mp kp] 70)).alloc (.cells #[.string d.1, .slice Aq mq kq] 70)) := ((Keep.refl _ _).alloc _).alloc _
      have HK3 := Lib.hid hk3
      clear hLc hLd hc hd hbc hbd hbt hbt2 hK1 hk3
      generalize sameF n c.2 d.2 = sr at *
      generalize (decide (c.1 = d.1)) = sk at *
      generalize hrest : sameC (sameF n) (cs.drop (m + 1)) (ds.drop (m + 1)) = rest at *
      have HREST := Lib.hid hrest
      have HF2 := Lib.hid hF2
      clear hrest hF2
      cases hs : (sk && sr)
      · rw [hs] at HC HF2
        clear hs
        go_wp2_with (go_at_fn 40; refine (HC _ HK3.out).out.mono ?_; rintro e w5 ⟨rfl, hk5⟩; have HK5 := Lib.hid hk5; clear hk5)
        go_ret
        exact ⟨by rw [← HF2.out]; rfl, (HK1.out.nil HK3.out).nil HK5.out⟩
      · rw [hs] at HC HF2
        clear hs
        go_wp2_with (go_at_fn 40; refine (HC _ HK3.out).out.mono ?_; rintro e w5 ⟨rfl, hk5⟩; have HK5 := Lib.hid hk5; clear hk5)
        go_roundw
        case rel => exact ⟨m + 1, by omega, by go_num, (HK1.out.nil HK3.out).nil HK5.out, by rw [HREST.out, ← HF2.out]; rfl⟩
        case measure => simp [intOf]; omega
    · obtain rfl : m = cs.length := by omega
      have hF := HF.out
      rw [List.drop_length, HL.out, List.drop_length] at hF
      have HF2 := Lib.hid hF
      clear hF
      go_wp2
      go_ret
      exact ⟨by rw [← HF2.out]; rfl, HK1.out⟩
end Go.Proofs.YtmfoiceofhcicaaGreatDoor

namespace Go.Proofs.YtmfoiceofhcicaaGreatDoor
open Go.RowKit

theorem sameP_l (K : List PT → List PT → Bool) (p q : PT) : sameP K p q = ((p.k == q.k) && (p.tx.toList == q.tx.toList) && (p.nm.toList == q.nm.toList) && (p.ty.toList == q.ty.toList) && (p.st.toList == q.st.toList) && (p.off == q.off) && sameC K p.cs q.cs) := by
  unfold sameP
  rw [bytes_beq, bytes_beq, bytes_beq, bytes_beq]
  have h1 : (p.k == q.k) = decide (p.k = q.k) := by rw [Bool.eq_iff_iff]; simp
  have h2 : (p.off == q.off) = decide (p.off = q.off) := by rw [Bool.eq_iff_iff]; simp
  rw [h1, h2]
set_option maxRecDepth 100000 in
set_option maxHeartbeats 4000000 in
/-- The closure on two parts. -/
theorem same1_any (n : Nat) (ih : SmC n) (p q : PT) (S T : Nat → Prop) (A1 A2 : Option Addr) (k1 k2 : Nat) (w : World) (hc : LiesC n S w (.slice A1 p.cs.length k1) p.cs) (hd : LiesC n T w (.slice A2 q.cs.length k2) q.cs) (hb : bulkC (bulkF n) p.cs ≤ 1000000000) (hb2 : bulkC (bulkF n) q.cs ≤ 1000000000) :
    Calls Tryz.prog 38 #[.agg #[.int .i64 p.k, .string p.tx, .string p.nm, .string p.ty, .string p.st, .int .i64 p.off, .slice A1 p.cs.length k1], .agg #[.int .i64 q.k, .string q.tx, .string q.nm, .string q.ty, .string q.st, .int .i64 q.off, .slice A2 q.cs.length k2]] w fun e w' => e = .returned (.bool (sameP (sameF n) p q)) ∧ Keep [] w w' := by
  rw [sameP_l]
  have HIH : ∀ W, Keep [] w W → Hid (Calls Tryz.prog 39 #[.slice A1 p.cs.length k1, .slice A2 q.cs.length k2, .func (.func 40) #[] #[]] W fun e w' => e = .returned (.bool (sameC (sameF n) p.cs q.cs)) ∧ Keep [] W w') := fun W hW => eqCase_any n ih p.cs q.cs S T _ _ W (hc.keep hW (by simp)) (hd.keep hW (by simp)) hb hb2
  clear hc hd ih hb hb2
  generalize sameC (sameF n) p.cs q.cs = sr at *
  generalize p.cs.length = l1 at *
  generalize q.cs.length = l2 at *
  have hk2 : Keep [] w ((w.alloc (.cells #[.int .i64 p.k, .string p.tx, .string p.nm, .string p.ty, .string p.st, .int .i64 p.off, .slice A1 l1 k1] 68)).alloc (.cells #[.int .i64 q.k, .string q.tx, .string q.nm, .string q.ty, .string q.st, .int .i64 q.off, .slice A2 l2 k2] 68)) := ((Keep.refl _ _).alloc _).alloc _
  have HK2 := Lib.hid hk2
  clear hk2
  cases h0 : (p.k == q.k)
  case false =>
    go_enter Tryz.func38, Tryz.ntmps38
    go_wp2
    go_ret
    exact ⟨by simp, HK2.out⟩
  cases h1 : (p.tx.toList == q.tx.toList)
  case false =>
    go_enter Tryz.func38, Tryz.ntmps38
    go_wp2
    go_ret
    exact ⟨by simp, HK2.out⟩
  cases h2 : (p.nm.toList == q.nm.toList)
  case false =>
    go_enter Tryz.func38, Tryz.ntmps38
    go_wp2
    go_ret
    exact ⟨by simp, HK2.out⟩
  cases h3 : (p.ty.toList == q.ty.toList)
  case false =>
    go_enter Tryz.func38, Tryz.ntmps38
    go_wp2
    go_ret
    exact ⟨by simp, HK2.out⟩
  cases h4 : (p.st.toList == q.st.toList)
  case false =>
    go_enter Tryz.func38, Tryz.ntmps38
    go_wp2
    go_ret
    exact ⟨by simp, HK2.out⟩
  cases h5 : (p.off == q.off)
  case false =>
    go_enter Tryz.func38, Tryz.ntmps38
    go_wp2
    go_ret
    exact ⟨by simp, HK2.out⟩
  go_enter Tryz.func38, Tryz.ntmps38
  go_wp2_with (go_at_call 39; refine (HIH _ HK2.out).out.mono ?_; rintro e w5 ⟨rfl, hk5⟩; have HK5 := Lib.hid hk5; clear hk5)
  go_ret
  exact ⟨by simp, HK2.out.nil HK5.out⟩
set_option maxRecDepth 100000 in
set_option maxHeartbeats 4000000 in
/-- slices.EqualFunc over parts. -/
theorem eqPart_any (n : Nat) (ih : SmC n) (a b : List PT) (S T : Nat → Prop) (va vb : Value) (w : World) (hc : Lies (n + 1) S w va a) (hd : Lies (n + 1) T w vb b) (hb : bulkF (n + 1) a ≤ 1000000000) (hb2 : bulkF (n + 1) b ≤ 1000000000) :
    Calls Tryz.prog 37 #[va, vb, .func (.func 38) #[] #[]] w fun e w' => e = .returned (.bool (sameF (n + 1) a b)) ∧ Keep [] w w' := by
  have hK : ∀ args w, (callFunc 38 args).run Tryz.prog w = .ok (.enter 38 args) w := enters_of Tryz.func38 (by kernel_rfl) rfl
  obtain ⟨A1, k1, rfl, _, hat1⟩ := lies_open hc
  obtain ⟨A2, k2, rfl, _, hat2⟩ := lies_open hd
  have hl1 := bulkL_len (bulkF n) a
  have hl2 := bulkL_len (bulkF n) b
  simp only [bulkF] at hb hb2
  have HAT1 := Lib.hid hat1
  have HAT2 := Lib.hid hat2
  have HIH : Hid (SmC n) := ih
  have HB1 := Lib.hid hb
  have HB2 := Lib.hid hb2
  have hll1 : a.length ≤ 1000000000 := by omega
  have hll2 : b.length ≤ 1000000000 := by omega
  clear hc hd hat1 hat2 ih hb hb2 hl1 hl2
  by_cases hl : a.length = b.length
  case neg =>
    have HR : Hid (sameF (n + 1) a b = false) := sameL_len hl
    have hne : ((a.length : Int) != b.length) = true := by simp; omega
    go_enter Tryz.func37, Tryz.ntmps37
    go_wp2
    go_ret
    exact ⟨by rw [HR.out]; rfl, Keep.refl _ _⟩
  obtain ⟨RR, hRR⟩ : ∃ RR, sameF (n + 1) a b = RR := ⟨_, rfl⟩
  rw [hRR]
  have HRR : Hid (sameL (sameF n) a b = RR) := hRR
  have HL := Lib.hid hl
  have hne : ((a.length : Int) != b.length) = false := by simp; omega
  clear hRR hl
  go_enter Tryz.func37, Tryz.ntmps37
  go_wp2
  go_loopw [17] (fun i wr => ∃ m : Nat, m ≤ a.length ∧ i = .int .i64 m ∧ Keep [] w wr ∧ sameL (sameF n) (a.drop m) (b.drop m) = RR) (fun i _ => a.length - (intOf i).toNat)
  case atStart => exact ⟨0, Nat.zero_le _, rfl, Keep.refl _ _, HRR.out⟩
  case round =>
    obtain ⟨m, hm, rfl, hK1, hF⟩ := hrel
    have HK1 := Lib.hid hK1
    have HF := Lib.hid hF
    clear hF
    by_cases hlt : m < a.length
    · obtain ⟨p, hp⟩ : ∃ p, a[m]? = some p := ⟨_, List.getElem?_eq_getElem hlt⟩
      obtain ⟨q, hq⟩ : ∃ q, b[m]? = some q := ⟨_, List.getElem?_eq_getElem (by have := HL.out; omega)⟩
      have hlt2 : m < b.length := by have := HL.out; omega
      obtain ⟨b1, o1, cv, rfl, hb1, hP, hLc⟩ := HAT1.out m p hp
      obtain ⟨b2, o2, dv, rfl, hb2, hQ, hLd⟩ := HAT2.out m q hq
      obtain ⟨A1, k1, rfl⟩ := hLc.formL
      obtain ⟨A2, k2, rfl⟩ := hLd.formL
      obtain ⟨a0, a1, a2, a3, a4, a5, a6⟩ := hP.keep hK1 hb1
      have hbr1 := Nat.lt_of_lt_of_le hb1 hK1.size
      have hbr2 := Nat.lt_of_lt_of_le hb2 hK1.size
      obtain ⟨g0, g1, g2, g3, g4, g5, g6⟩ := (hQ.keep hK1 hb2).keep ((Keep.refl [] wr).alloc (.cells #[.int .i64 p.k, .string p.tx, .string p.nm, .string p.ty, .string p.st, .int .i64 p.off, .slice A1 p.cs.length k1] 68)) hbr2
      have hbp := bulkL_at (bulkF n) a m p hp
      have hbq := bulkL_at (bulkF n) b m q hq
      have hbt := HB1.out
      have hbt2 := HB2.out
      have HC : ∀ W, Keep [] wr W → Hid (Calls Tryz.prog 38 #[.agg #[.int .i64 p.k, .string p.tx, .string p.nm, .string p.ty, .string p.st, .int .i64 p.off, .slice A1 p.cs.length k1], .agg #[.int .i64 q.k, .string q.tx, .string q.nm, .string q.ty, .string q.st, .int .i64 q.off, .slice A2 q.cs.length k2]] W fun e w' => e = .returned (.bool (sameP (sameF n) p q)) ∧ Keep [] W w') := fun W hW => same1_any n HIH.out p q S T A1 A2 k1 k2 W ((hLc.keep hK1 (by simp)).keep hW (by simp)) ((hLd.keep hK1 (by simp)).keep hW (by simp)) (by omega) (by omega)
      have hF2 := HF.out
      rw [sameL_drop hp hq] at hF2
      have hk3 : Keep [] wr ((wr.alloc (.cells #[.int .i64 p.k, .string p.tx, .string p.nm, .string p.ty, .string p.st, .int .i64 p.off, .slice A1 p.cs.length k1] 68)).alloc (.cells #[.int .i64 q.k, .string q.tx, .string q.nm, .string q.ty, .string q.st, .int .i64 q.off, .slice A2 q.cs.length k2] 68)) := ((Keep.refl _ _).alloc _).alloc _
      have HK3 := Lib.hid hk3
      clear hLc hLd hp hq hbp hbq hbt hbt2 hK1 hk3 hP hQ
      generalize sameP (sameF n) p q = sr at *
      generalize hrest : sameL (sameF n) (a.drop (m + 1)) (b.drop (m + 1)) = rest at *
      have HREST := Lib.hid hrest
      have HF2 := Lib.hid hF2
      clear hrest hF2
      cases sr
      · go_wp2_with (go_at_fn 38; refine (HC _ HK3.out).out.mono ?_; rintro e w5 ⟨rfl, hk5⟩; have HK5 := Lib.hid hk5; clear hk5)
        go_ret
        exact ⟨by rw [← HF2.out]; rfl, (HK1.out.nil HK3.out).nil HK5.out⟩
      · go_wp2_with (go_at_fn 38; refine (HC _ HK3.out).out.mono ?_; rintro e w5 ⟨rfl, hk5⟩; have HK5 := Lib.hid hk5; clear hk5)
        go_roundw
        case rel => exact ⟨m + 1, by omega, by go_num, (HK1.out.nil HK3.out).nil HK5.out, by rw [HREST.out, ← HF2.out]; rfl⟩
        case measure => simp [intOf]; omega
    · obtain rfl : m = a.length := by omega
      have hF := HF.out
      rw [List.drop_length, HL.out, List.drop_length] at hF
      have HF2 := Lib.hid hF
      clear hF
      go_wp2
      go_ret
      exact ⟨by rw [← HF2.out]; rfl, HK1.out⟩
set_option maxRecDepth 100000 in
set_option maxHeartbeats 1000000 in
theorem same_step (n : Nat) (ih : SmC n) : SmC (n + 1) := fun a b S T va vb w ha hb h1 h2 => by
  obtain ⟨A1, m1, k1, rfl⟩ := ha.form
  obtain ⟨A2, m2, k2, rfl⟩ := hb.form
  have HE := Lib.hid (eqPart_any n ih a b S T _ _ w ha hb h1 h2)
  clear ha hb ih h1 h2
  generalize sameF (n + 1) a b = sr at *
  go_enter Tryz.func18, Tryz.ntmps18
  go_wp2_with (go_at_call 37; refine HE.out.mono ?_; rintro e w5 ⟨rfl, hk5⟩; have HK5 := Lib.hid hk5; clear hk5)
  go_ret
  exact ⟨rfl, HK5.out⟩
/-- message.Same. -/
theorem same_any : ∀ n, SmC n
  | 0 => fun _ _ _ _ _ _ _ h => h.elim
  | n + 1 => same_step n (same_any n)
end Go.Proofs.YtmfoiceofhcicaaGreatDoor

namespace Go.Proofs.YtmfoiceofhcicaaGreatDoor
open Go.RowKit Go.IntWalk

set_option maxRecDepth 100000 in
set_option maxHeartbeats 2000000 in
/-- read. -/
theorem read_any (w : World) (B : Nat) (v0 : Value) (b : List UInt8) (hE : EnvM B w) (h : RdU w v0 b) (hl : b.length ≤ 1000000) (hsm : SmallB b) :
    Calls Tryz.prog 32 #[v0] w (ReadO b w) := by
  have hLL := list_any w v0 b h (by omega)
  have HV := Lib.hid h
  have HE := Lib.hid hE
  have HSM := Lib.hid hsm
  unfold ReadO
  clear h hE hsm
  cases hR : listR b with
  | none =>
    have hF : readF b = none := by unfold readF; rw [hR]
    unfold ListO at hLL
    rw [hR] at hLL
    rw [hF]
    have HLL := Lib.hid hLL
    clear hLL hF hR
    go_enter Tryz.func32, Tryz.ntmps32
    go_wp2_with (go_at_call 52; refine HLL.out.mono ?_; rintro e w1 ⟨hk1, p1, rfl⟩; have HK1 := Lib.hid hk1; clear hk1)
    go_ret3
    exact ⟨HK1.out, rfl⟩
  | some PO =>
    obtain ⟨P, ops⟩ := PO
    obtain ⟨-, hka⟩ := listR_ok hR
    unfold ListO at hLL
    rw [hR] at hLL
    have HLL := Lib.hid hLL
    have HLF : Hid (∀ w1 xb, Lst w1 w.heap.size xb P ops → ops.length ≤ b.length → Calls Tryz.prog 53 #[.pointer (some ⟨xb, 0, none⟩), .int .i64 0, .int .i64 9] w1 (LiftO ops (ops.length + 1) 9 0 w1)) := fun w1 xb hLst hol => lift_all 9 (by omega) ops P 0 (ops.length + 1) w1 _ xb hLst (Nat.zero_le _) (by omega) hka (by omega)
    clear hLL hka
    cases hM : liftF ops (ops.length + 1) 9 0 [] with
    | none =>
      have hF : readF b = none := by
        unfold readF liftM
        simp only [hR, hM, Option.map_none]
      rw [hF]
      unfold LiftO at HLF
      rw [hM] at HLF
      clear hF hR hM
      go_enter Tryz.func32, Tryz.ntmps32
      go_wp2_with (first
        | (go_at_call 52; refine HLL.out.mono ?_; rintro e w1 ⟨hk1, xb, rfl, hLst, hPl, hol⟩; have HLF1 := Lib.hid (HLF.out w1 xb hLst hol); have HK1 := Lib.hid hk1; clear hk1 hLst hPl hol)
        | (go_at_call 53; refine HLF1.out.mono ?_; rintro e w2 ⟨hk2, rfl⟩; have HK2 := Lib.hid hk2; clear hk2))
      go_ret3
      exact ⟨HK1.out.nil HK2.out, rfl⟩
    | some lj =>
      obtain ⟨l, j⟩ := lj
      have hlm : liftM ops = some l := by unfold liftM; rw [hM]; rfl
      have hbk := HSM.out P ops l hR hlm
      unfold LiftO at HLF
      rw [hM] at HLF
      have HCK : Hid (∀ (w1 w2 : World) (u : Value), Keep [] w w2 → w.heap.size ≤ w1.heap.size → OwnL 9 w2 w1.heap.size u l → Calls Tryz.prog 15 #[u] w2 fun e w' => e = .returned (.int .i64 (formF 10 l).2) ∧ Keep [] w2 w') := fun w1 w2 u hk hz hu => mcheck_all 10 l _ u B w2 (HE.out.keep hk (by simp)) hu.lies (fun x hx => hx.2) hbk
      by_cases hf : (formF 10 l).2 = 0
      · obtain ⟨hr, -, -, hb8⟩ := form_fine hf
        have HCO : Hid (∀ (w1 : Nat) (w2 w3 : World) (u : Value), Keep [] w2 w3 → OwnL 9 w2 w1 u l → Calls Tryz.prog 29 #[u] w3 fun e w' => ∃ u4, e = .returned u4 ∧ OwnU w' w3.heap.size u4 (codeF 10 l) ∧ Keep [] w3 w') := fun w1 w2 w3 u hk hu => compile_any 10 l _ u w3 (hu.lies.keep hk (by simp)) (fun x hx => Nat.lt_of_lt_of_le hx.2 hk.size) hr (by omega)
        rw [hf] at HCK
        obtain ⟨C, hC⟩ : ∃ C, codeF 10 l = C := ⟨_, rfl⟩
        rw [hC] at HCO
        by_cases hcb : C = b
        · have hF : readF b = some (P, ops, l) := by
            unfold readF
            simp only [hR, hlm]
            rw [if_pos ⟨hf, by rw [hC]; exact hcb⟩]
          rw [hF]
          have hd : decide (C = b) = true := decide_eq_true hcb
          clear hF hR hM hlm hbk hf hr hb8 hC hcb
          go_enter Tryz.func32, Tryz.ntmps32
          go_wp2_with (first
            | (go_at_call 52; refine HLL.out.mono ?_; rintro e w1 ⟨hk1, xb, rfl, hLst, hPl, hol⟩; have HLF1 := Lib.hid (HLF.out w1 xb hLst hol); have HK1 := Lib.hid hk1; have HLS := Lib.hid hLst; have HPL := Lib.hid hPl; have HOL := Lib.hid hol; clear hk1 hLst hPl hol)
            | (go_at_call 53; refine HLF1.out.mono ?_; rintro e w2 ⟨hk2, u, rfl, hu⟩; have HCK1 := Lib.hid (HCK.out w1 w2 u (HK1.out.nil hk2) HK1.out.size hu); obtain ⟨UA, uc, rfl⟩ := hu.form; have HU := Lib.hid hu; have HK2 := Lib.hid hk2; clear hk2 hu)
            | (go_at_call 15; refine HCK1.out.mono ?_; rintro e w3 ⟨rfl, hk3⟩; have HCO1 := Lib.hid (HCO.out w1.heap.size w2 w3 _ hk3 HU.out); have HK3 := Lib.hid hk3; clear hk3)
            | (go_at_call 29; refine HCO1.out.mono ?_; rintro e w4 ⟨u4, rfl, ho4, hk4⟩; have HEQ := Lib.hid (equalU_any w4 u4 v0 C b ho4.reads (RdU.keep HV.out (((HK1.out.nil HK2.out).nil HK3.out).nil hk4))); rw [hd] at HEQ; have HK4 := Lib.hid hk4; clear hk4 ho4)
            | (go_at_call 17; refine HEQ.out.mono ?_; rintro e w5 ⟨rfl, rfl⟩))
          go_ret3
          have hk23 := HK3.out.nil HK4.out
          have hz1 := HK1.out.size
          exact ⟨((HK1.out.nil HK2.out).nil HK3.out).nil HK4.out, xb, _, rfl, (HLS.out.nil HK2.out).nil hk23, (HU.out.lies.keep hk23 (by simp)).mono (fun x hx => ⟨Nat.le_trans hz1 hx.1, Nat.lt_of_lt_of_le hx.2 hk23.size⟩), HPL.out, HOL.out⟩
        · have hF : readF b = none := by
            unfold readF
            simp only [hR, hlm]
            rw [if_neg (fun h => hcb (by rw [← hC]; exact h.2))]
          rw [hF]
          have hd : decide (C = b) = false := decide_eq_false hcb
          clear hF hR hM hlm hbk hf hr hb8 hC hcb
          go_enter Tryz.func32, Tryz.ntmps32
          go_wp2_with (first
            | (go_at_call 52; refine HLL.out.mono ?_; rintro e w1 ⟨hk1, xb, rfl, hLst, hPl, hol⟩; have HLF1 := Lib.hid (HLF.out w1 xb hLst hol); have HK1 := Lib.hid hk1; clear hk1 hLst hPl hol)
            | (go_at_call 53; refine HLF1.out.mono ?_; rintro e w2 ⟨hk2, u, rfl, hu⟩; have HCK1 := Lib.hid (HCK.out w1 w2 u (HK1.out.nil hk2) HK1.out.size hu); obtain ⟨UA, uc, rfl⟩ := hu.form; have HU := Lib.hid hu; have HK2 := Lib.hid hk2; clear hk2 hu)
            | (go_at_call 15; refine HCK1.out.mono ?_; rintro e w3 ⟨rfl, hk3⟩; have HCO1 := Lib.hid (HCO.out w1.heap.size w2 w3 _ hk3 HU.out); have HK3 := Lib.hid hk3; clear hk3)
            | (go_at_call 29; refine HCO1.out.mono ?_; rintro e w4 ⟨u4, rfl, ho4, hk4⟩; have HEQ := Lib.hid (equalU_any w4 u4 v0 C b ho4.reads (RdU.keep HV.out (((HK1.out.nil HK2.out).nil HK3.out).nil hk4))); rw [hd] at HEQ; have HK4 := Lib.hid hk4; clear hk4 ho4)
            | (go_at_call 17; refine HEQ.out.mono ?_; rintro e w5 ⟨rfl, rfl⟩))
          go_ret3
          exact ⟨((HK1.out.nil HK2.out).nil HK3.out).nil HK4.out, rfl⟩
      · have hF : readF b = none := by
          unfold readF
          simp only [hR, hlm]
          rw [if_neg (fun h => hf h.1)]
        rw [hF]
        have hb1 : ((formF 10 l).2 != 0) = true := by simpa using hf
        generalize (formF 10 l).2 = er at *
        clear hF hR hM hlm hbk hf
        go_enter Tryz.func32, Tryz.ntmps32
        go_wp2_with (first
          | (go_at_call 52; refine HLL.out.mono ?_; rintro e w1 ⟨hk1, xb, rfl, hLst, hPl, hol⟩; have HLF1 := Lib.hid (HLF.out w1 xb hLst hol); have HK1 := Lib.hid hk1; clear hk1 hLst hPl hol)
          | (go_at_call 53; refine HLF1.out.mono ?_; rintro e w2 ⟨hk2, u, rfl, hu⟩; have HCK1 := Lib.hid (HCK.out w1 w2 u (HK1.out.nil hk2) HK1.out.size hu); obtain ⟨UA, uc, rfl⟩ := hu.form; have HU := Lib.hid hu; have HK2 := Lib.hid hk2; clear hk2 hu)
          | (go_at_call 15; refine HCK1.out.mono ?_; rintro e w3 ⟨rfl, hk3⟩; have HK3 := Lib.hid hk3; clear hk3))
        go_ret3
        exact ⟨(HK1.out.nil HK2.out).nil HK3.out, rfl⟩
/-- What Lift tells. -/
def LiftA (b : List UInt8) (w : World) (e : Ending) (w' : World) : Prop :=
  Keep [] w w' ∧ match readF b with
  | none => e = .returned (.tuple #[.slice none 0 0, .int .i64 300])
  | some (_, _, l) => ∃ u, e = .returned (.tuple #[u, .int .i64 0]) ∧ Lies 10 (fun x => w.heap.size ≤ x ∧ x < w'.heap.size) w' u l
set_option maxRecDepth 100000 in
set_option maxHeartbeats 2000000 in
/-- Lift. -/
theorem clift_any (w : World) (B : Nat) (v0 : Value) (b : List UInt8) (hE : EnvM B w) (h : RdU w v0 b) (hl : b.length ≤ 1000000) (hsm : SmallB b) :
    Calls Tryz.prog 19 #[v0] w (LiftA b w) := by
  have hRD := read_any w B v0 b hE h hl hsm
  unfold LiftA
  unfold ReadO at hRD
  clear hE h hsm
  cases hF : readF b with
  | none =>
    rw [hF] at hRD
    have HRD := Lib.hid hRD
    clear hRD hF
    go_enter Tryz.func19, Tryz.ntmps19
    go_wp2_with (go_at_call 32; refine HRD.out.mono ?_; rintro e w1 ⟨hk1, rfl⟩; have HK1 := Lib.hid hk1; clear hk1)
    go_ret2
    exact ⟨HK1.out, rfl⟩
  | some x =>
    obtain ⟨P, ops, l⟩ := x
    rw [hF] at hRD
    have HRD := Lib.hid hRD
    clear hRD hF
    go_enter Tryz.func19, Tryz.ntmps19
    go_wp2_with (go_at_call 32; refine HRD.out.mono ?_; rintro e w1 ⟨hk1, xb, u, rfl, -, hu, -, -⟩; have HK1 := Lib.hid hk1; have HU := Lib.hid hu; obtain ⟨UA, um, uc, rfl⟩ := hu.form; clear hk1 hu)
    go_ret2
    exact ⟨HK1.out, _, rfl, HU.out⟩
set_option maxRecDepth 100000 in
set_option maxHeartbeats 2000000 in
/-- Verify. -/
theorem cverify_any (w : World) (B : Nat) (v0 : Value) (b : List UInt8) (hE : EnvM B w) (h : RdU w v0 b) (hl : b.length ≤ 1000000) (hsm : SmallB b) :
    Calls Tryz.prog 20 #[v0] w fun e w' => e = .returned (.int .i64 (if (readF b).isSome then 0 else 300)) ∧ Keep [] w w' := by
  have hRD := clift_any w B v0 b hE h hl hsm
  unfold LiftA at hRD
  clear hE h hsm
  cases hF : readF b with
  | none =>
    rw [hF] at hRD
    have HRD := Lib.hid hRD
    clear hRD hF
    go_enter Tryz.func20, Tryz.ntmps20
    go_wp2_with (go_at_call 19; refine HRD.out.mono ?_; rintro e w1 ⟨hk1, rfl⟩; have HK1 := Lib.hid hk1; clear hk1)
    go_ret
    exact ⟨rfl, HK1.out⟩
  | some x =>
    obtain ⟨P, ops, l⟩ := x
    rw [hF] at hRD
    have HRD := Lib.hid hRD
    clear hRD hF
    go_enter Tryz.func20, Tryz.ntmps20
    go_wp2_with (go_at_call 19; refine HRD.out.mono ?_; rintro e w1 ⟨hk1, u, rfl, hu⟩; have HK1 := Lib.hid hk1; clear hk1 hu)
    go_ret
    exact ⟨rfl, HK1.out⟩
end Go.Proofs.YtmfoiceofhcicaaGreatDoor

namespace Go.Proofs.YtmfoiceofhcicaaGreatDoor
open Go.RowKit Go.IntWalk

/-- Each instruction that is no end and leads nowhere has one behind it. -/
def NextO (ops : List OT) : Prop := ∀ i o, ops[i]? = some o → o.k ≠ 0 → o.ts = [] → i + 1 < ops.length
set_option maxRecDepth 100000 in
set_option maxHeartbeats 8000000 in
/-- Bound. -/
theorem bound_any (w : World) (B : Nat) (v0 : Value) (b : List UInt8) (hE : EnvM B w) (h : RdU w v0 b) (hl : b.length ≤ 1000000) (hsm : SmallB b) (P : List ByteArray) (ops : List OT) (l : List PT) (hF : readF b = some (P, ops, l)) (hne : 0 < ops.length) (hnx : NextO ops) (htb : ∀ o ∈ ops, o.ts.length ≤ 65535 ∧ ∀ t ∈ o.ts, t < 4294967296) :
    Calls Tryz.prog 13 #[v0] w fun e w' => e = .returned (.tuple #[.int .i64 (boundF ops : Nat), .int .i64 0]) ∧ Keep [] w w' := by
  have hRD := read_any w B v0 b hE h hl hsm
  unfold ReadO at hRD
  rw [hF] at hRD
  have HRD := Lib.hid hRD
  have HNX := Lib.hid hnx
  have HTB := Lib.hid htb
  have hmk := @run_make_ints
  obtain ⟨TT, hTT⟩ : ∃ TT, farF ops ops.length (List.replicate ops.length 0) = TT := ⟨_, rfl⟩
  have HTT := Lib.hid hTT
  unfold boundF
  rw [hTT]
  clear hE h hsm hRD hF hnx htb hTT
  go_enter Tryz.func13, Tryz.ntmps13
  go_upto_region 4 with (go_at_call 32; refine HRD.out.mono ?_; rintro e w1 ⟨hk1, xb, u, rfl, hLst, hu, -, hol⟩; have HK1 := Lib.hid hk1; obtain ⟨UA, um, uc, rfl⟩ := hu.form; obtain ⟨pv, ov, mb, hX, hP, hO, hM⟩ := hLst; obtain ⟨OA, oc, rfl⟩ := hO.form; have x1 : w1.cell? ⟨xb, 1, none⟩ = some (.slice OA ops.length oc) := hX.cell_eq rfl; have HX := Lib.hid hX; have HO := Lib.hid hO; have HM := Lib.hid hM; have hol2 : ops.length ≤ 1000000 := (by omega); have hmk1 := hmk ops.length (by omega) w1; clear hk1 hX hP hO hM hu hol)
  have hN1 := made_ints w1 ops.length (by omega)
  have hkA : Keep [] w1 (w1.alloc (.cells (Array.replicate ops.length (Value.int .i64 0)) 3)) := (Keep.refl _ _).alloc _
  have hxA : (w1.alloc (.cells (Array.replicate ops.length (Value.int .i64 0)) 3)).cell? ⟨xb, 1, none⟩ = some (.slice OA ops.length oc) := (HX.out.keep hkA (by simp)).cell_eq rfl
  go_upto_region 5 with fail
  generalize w1.alloc (.cells (Array.replicate ops.length (Value.int .i64 0)) 3) = WA at *
  obtain ⟨fb, hfb⟩ : ∃ fb, w1.heap.size = fb := ⟨_, rfl⟩
  rw [hfb] at hN1 ⊢
  have HFB := Lib.hid hfb
  have HN1 := Lib.hid hN1
  have HKA := Lib.hid hkA
  obtain ⟨z0, hz0⟩ : ∃ z : Int, (ops.length : Int) - 1 = z := ⟨_, rfl⟩
  have hw1 : IntKind.i64.wrap ((ops.length : Int) - 1) = z0 := by rw [IntKind.wrap_i64]; omega
  have hw2 : wrap64 ((ops.length : Int) - 1) = z0 := by unfold wrap64; omega
  have hne' : (0 : Int) < (ops.length : Int) := by omega
  clear hN1 hkA hfb hmk hmk1 x1
  go_wp2
  clear hw1 hw2
  go_loopw [8] (fun iv wr => ∃ (j : Nat) (z : Int) (A : List Nat), iv = .int .i64 z ∧ z = (j : Int) - 1 ∧ j ≤ ops.length ∧ A.length = ops.length ∧ OwnN wr fb (.slice (some ⟨fb, 0, none⟩) ops.length ops.length) A ∧ (∀ x ∈ A, x ≤ ops.length - j) ∧ Keep [fb] WA wr ∧ farF ops j A = TT) (fun iv _ => (intOf iv + 1).toNat)
  case atStart => exact ⟨ops.length, z0, List.replicate ops.length 0, rfl, by omega, Nat.le_refl _, by simp, HN1.out, fun x hx => by rw [List.eq_of_mem_replicate hx]; omega, Keep.refl _ _, HTT.out⟩
  case round =>
    obtain ⟨j, z, A, rfl, hz, hj, hAl, hN, hAm, hK, hfar⟩ := hrel
    have hk1 : Keep [] w1 wr := (HKA.out.mono (by simp)).trans hK (fun x hx => .inr (by simp at hx; have := HFB.out; omega))
    have x1r : wr.cell? ⟨xb, 1, none⟩ = some (.slice OA ops.length oc) := (HX.out.keep hk1 (by simp)).cell_eq rfl
    have HN := Lib.hid hN
    have HAM := Lib.hid hAm
    have HK := Lib.hid hK
    have HKW := Lib.hid hk1
    have HFAR := Lib.hid hfar
    have HAL := Lib.hid hAl
    clear hN hAm hK hk1 hfar hxA
    by_cases hj0 : j = 0
    · subst hj0
      have hzn : ¬ (0 : Int) ≤ z := by omega
      have hg := (HN.out.get 0 (by have := HAL.out; omega)).1
      have hT : A = TT := HFAR.out
      have HT := Lib.hid hT
      clear hT hAl
      go_wp2
      go_ret2
      exact ⟨by rw [← HT.out]; rfl, HK1.out.nil HKW.out⟩
    · obtain ⟨i, rfl⟩ : ∃ i, j = i + 1 := ⟨j - 1, by omega⟩
      have hz1 : (0 : Int) ≤ z := by omega
      have hz2 : z < (ops.length : Int) := by omega
      have hz3 : z.toNat = i := by omega
      have hz4 : IntKind.i64.wrap (z - 1) = z - 1 := by rw [IntKind.wrap_i64]; omega
      have hz5 : wrap64 (z - 1) = z - 1 := by unfold wrap64; omega
      have HZ := Lib.hid hz
      obtain ⟨o, ho⟩ : ∃ o, ops[i]? = some o := ⟨_, List.getElem?_eq_getElem (by omega)⟩
      obtain ⟨ob, oc', u, he, hBb, hbs, hAt, hks, hts⟩ := HO.out.at ho
      injection he with he1 _ he3
      subst he1; subst he3
      have hAt2 := hAt.keep HKW.out hbs (by simp)
      have c0 : wr.cell? ⟨ob, i * 10, none⟩ = some (.int .i64 (o.at_ : Int)) := hAt2 0 _ rfl
      have c1 : wr.cell? ⟨ob, i * 10 + 1, none⟩ = some (.int .i64 (o.nx : Int)) := hAt2 1 _ rfl
      have c2 : wr.cell? ⟨ob, i * 10 + 2, none⟩ = some (.int .i64 (o.k : Int)) := hAt2 2 _ rfl
      have c3 : wr.cell? ⟨ob, i * 10 + 3, none⟩ = some (.string o.tx) := hAt2 3 _ rfl
      have c4 : wr.cell? ⟨ob, i * 10 + 4, none⟩ = some (.string o.nm) := hAt2 4 _ rfl
      have c5 : wr.cell? ⟨ob, i * 10 + 5, none⟩ = some (.string o.ty) := hAt2 5 _ rfl
      have c6 : wr.cell? ⟨ob, i * 10 + 6, none⟩ = some (.string o.st) := hAt2 6 _ rfl
      have c7 : wr.cell? ⟨ob, i * 10 + 7, none⟩ = some (.int .i64 (o.off : Int)) := hAt2 7 _ rfl
      have c8 : wr.cell? ⟨ob, i * 10 + 8, none⟩ = some u.1 := hAt2 8 _ rfl
      have c9 : wr.cell? ⟨ob, i * 10 + 9, none⟩ = some u.2 := hAt2 9 _ rfl
      obtain ⟨u1, u2⟩ := u
      obtain ⟨KA, kc, hku⟩ := hks.form
      obtain ⟨TA, tc, htu⟩ := hts.form
      simp only at hku htu c8 c9 hks hts
      subst hku; subst htu
      have HTS := Lib.hid hts
      obtain ⟨hok, htl⟩ := HTB.out o (List.mem_of_getElem? ho)
      have HO1 := Lib.hid ho
      have HTL := Lib.hid htl
      clear hAt hAt2 hks hts ho htl hz
      go_upto_region 9 with fail
      have hx1 : Blk (wr.alloc (.cells #[.int .i64 (o.at_ : Int), .int .i64 (o.nx : Int), .int .i64 (o.k : Int), .string o.tx, .string o.nm, .string o.ty, .string o.st, .int .i64 (o.off : Int), .slice KA o.ks.length kc, .slice TA o.ts.length tc] 36)) wr.heap.size 36 #[.int .i64 (o.at_ : Int), .int .i64 (o.nx : Int), .int .i64 (o.k : Int), .string o.tx, .string o.nm, .string o.ty, .string o.st, .int .i64 (o.off : Int), .slice KA o.ks.length kc, .slice TA o.ts.length tc] := Blk.new _ _ _
      have hkx : Keep [] wr (wr.alloc (.cells #[.int .i64 (o.at_ : Int), .int .i64 (o.nx : Int), .int .i64 (o.k : Int), .string o.tx, .string o.nm, .string o.ty, .string o.st, .int .i64 (o.off : Int), .slice KA o.ks.length kc, .slice TA o.ts.length tc] 36)) := (Keep.refl _ _).alloc _
      generalize wr.alloc (.cells #[.int .i64 (o.at_ : Int), .int .i64 (o.nx : Int), .int .i64 (o.k : Int), .string o.tx, .string o.nm, .string o.ty, .string o.st, .int .i64 (o.off : Int), .slice KA o.ks.length kc, .slice TA o.ts.length tc] 36) = W1 at *
      obtain ⟨tb, htb⟩ : ∃ tb, wr.heap.size = tb := ⟨_, rfl⟩
      rw [htb] at hx1 ⊢
      clear c0 c1 c2 c3 c4 c5 c6 c7 c8 c9 x1r
      have c2 : W1.cell? ⟨tb, 2, none⟩ = some (.int .i64 (o.k : Int)) := hx1.cell_eq rfl
      have c9 : W1.cell? ⟨tb, 9, none⟩ = some (.slice TA o.ts.length tc) := hx1.cell_eq rfl
      have hN1 := HN.out.keep hkx (by simp)
      have hil : i < A.length := by have := HAL.out; omega
      have hgi := hN1.get i hil
      have gi := hgi.1
      have gz := hgi.2
      have HN1' := Lib.hid hN1
      have HKX := Lib.hid hkx
      have hfr := HFAR.out
      unfold farF at hfr
      rw [HO1.out] at hfr
      simp only at hfr
      have hml : mostF ops A i o ≤ ops.length - (i + 1) := most_le HAM.out i o
      obtain ⟨mm, hmm⟩ : ∃ mm, mostF ops A i o = mm := ⟨_, rfl⟩
      rw [hmm] at hml hfr
      have HMM := Lib.hid hmm
      have HFR := Lib.hid hfr
      have hwm : IntKind.i64.wrap ((mm : Int) + 1) = (mm : Int) + 1 := IntWalk.i64_in _ (by omega)
      have HEND : Hid (OwnN (W1.setCell ⟨fb, i, none⟩ (.int .i64 ((mm + 1 : Nat) : Int))) fb (.slice (some ⟨fb, 0, none⟩) ops.length ops.length) (A.set i (mm + 1)) ∧ (∀ x ∈ A.set i (mm + 1), x ≤ ops.length - i) ∧ Keep [fb] WA (W1.setCell ⟨fb, i, none⟩ (.int .i64 ((mm + 1 : Nat) : Int)))) :=
        ⟨hN1.set i (mm + 1), set_le (fun y hy => by have := HAM.out y hy; omega) (by omega), (HK.out.nil hkx).setCell (.inl (by simp)) _⟩
      clear hx1 hkx hN1 hgi hfr hmm htb
      by_cases hk0 : o.k = 0
      · have e2 : ((o.k : Nat) : Int) = 0 := by omega
        rw [e2] at c2
        have hm0 : mm = 0 := by rw [← HMM.out]; unfold mostF; rw [if_pos hk0]
        subst hm0
        clear hk0 e2
        go_wp2
        go_roundw
        case rel => exact ⟨i, z - 1, A.set i 1, rfl, by have := HZ.out; omega, by omega, by have := HAL.out; simpa using this, HEND.out.1, HEND.out.2.1, HEND.out.2.2, HFR.out⟩
        case measure => have := HZ.out; simp [intOf]; omega
      · have d0 : ((o.k : Int) == 0) = false := by simp; omega
        have HK0 := Lib.hid hk0
        clear hk0
        by_cases hts0 : o.ts = []
        · have hl0 : o.ts.length = 0 := by rw [hts0]; rfl
          have hnx1 := HNX.out i o HO1.out HK0.out hts0
          have hmt : mm = A.getD (i + 1) 0 := by rw [← HMM.out]; unfold mostF; rw [if_neg HK0.out, if_pos hts0]
          have hg1 := (HN1'.out.get (i + 1) (by have := HAL.out; omega)).1
          rw [← hmt] at hg1
          have hz6 : IntKind.i64.wrap (z + 1) = z + 1 := by rw [IntKind.wrap_i64]; omega
          have hz7 : (z + 1).toNat = i + 1 := by omega
          have hz8 : (0 : Int) ≤ z + 1 := by omega
          have hz9 : z + 1 < (ops.length : Int) := by omega
          rw [hl0] at c9
          clear hts0 hmt hl0
          go_wp2
          go_roundw
          case rel => exact ⟨i, z - 1, A.set i (mm + 1), rfl, by have := HZ.out; omega, by omega, by have := HAL.out; simpa using this, by simpa using HEND.out.1, HEND.out.2.1, by simpa using HEND.out.2.2, HFR.out⟩
          case measure => have := HZ.out; simp [intOf]; omega
        · have hlb : ((o.ts.length : Int) == 0) = false := by
            have := List.length_pos_iff.2 hts0
            simp
            omega
          have hmf : o.ts.foldl (fun m t => max m (A.getD (lookN ops t) 0)) 0 = mm := by rw [← HMM.out]; unfold mostF; rw [if_neg HK0.out, if_neg hts0]
          have HMF := Lib.hid hmf
          have hkW : Keep [] w1 W1 := HKW.out.nil HKX.out
          have HKW1 := Lib.hid hkW
          have HM1 := Lib.hid (HM.out.keep hkW (by simp))
          have x2 : W1.cell? ⟨xb, 2, none⟩ = some (.map (some mb)) := (HX.out.keep hkW (by simp)).cell_eq rfl
          have HLQ : Hid (∀ t, lookN ops t < ops.length) := fun t => lookN_lt (by omega)
          clear hts0 hmf hkW
          go_wp2
          go_loopw [10, 47] (fun mv ix wr => ∃ (t m : Nat), t ≤ o.ts.length ∧ ix = .int .i64 t ∧ mv = .int .i64 m ∧ wr = W1 ∧ m ≤ ops.length ∧ (o.ts.drop t).foldl (fun m t => max m (A.getD (lookN ops t) 0)) m = mm) (fun _ ix _ => o.ts.length - (intOf ix).toNat)
          case atStart => exact ⟨0, 0, Nat.zero_le _, rfl, rfl, rfl, Nat.zero_le _, HMF.out⟩
          case round =>
            obtain ⟨t, m, ht, rfl, rfl, rfl, hmo, hfold⟩ := hrel
            by_cases htl : t < o.ts.length
            · have HTLT := Lib.hid htl
              obtain ⟨tt, htt⟩ : ∃ tt, o.ts[t]? = some tt := ⟨_, List.getElem?_eq_getElem htl⟩
              obtain ⟨tbk, tc', hte, hk0⟩ := HTS.out.at htt
              have htb := (HTS.out.lt tbk (by rw [hte]; simp [Value.ownBlock])).2
              injection hte with hte1 _ hte3
              subst hte1; subst hte3
              have k0 : wr.cell? ⟨tbk, t, none⟩ = some (.int .i64 (tt : Int)) := (HKW1.out.cell (p := ⟨tbk, t, none⟩) htb (by simp)).trans hk0
              have htt32 := HTL.out tt (List.mem_of_getElem? htt)
              have hq := HLQ.out tt
              have HVN := Lib.hid (valN_ops ops tt)
              have hfold2 := hfold
              rw [drop_some htt, List.foldl_cons] at hfold2
              generalize lookN ops tt = q at *
              have gq := (HN1'.out.get q (by have := HAL.out; omega)).1
              have hxq : A.getD q 0 ≤ ops.length := Nat.le_trans (getD_le HAM.out q) (Nat.sub_le _ _)
              generalize A.getD q 0 = xq at *
              have HF2 := Lib.hid hfold2
              have htt32' : tt ≤ 1000000000000 := by omega
              clear hk0 htt hfold hfold2
              go_wp2_with (at_lookup; refine wpList_getN rfl _ _ rfl HM1.out rfl tt rfl htt32' q HVN.out ?_)
              have htl2 : t < o.ts.length := HTLT.out
              have hcm : max (m : Int) (xq : Int) = ((max m xq : Nat) : Int) := by omega
              go_roundw
              case rel => exact ⟨t + 1, max m xq, htl2, by go_num, by rw [hcm], trivial, Nat.max_le.2 ⟨hmo, hxq⟩, HF2.out⟩
              case measure => simp [intOf]; omega
            · obtain rfl : t = o.ts.length := by omega
              rw [List.drop_length] at hfold
              have hfm : m = mm := hfold
              subst hfm
              clear hfold
              go_wp2
              go_roundw
              case rel => exact ⟨i, z - 1, A.set i (m + 1), rfl, by have := HZ.out; omega, by omega, by have := HAL.out; simpa using this, by simpa using HEND.out.1, HEND.out.2.1, by simpa using HEND.out.2.2, HFR.out⟩
              case measure => have := HZ.out; simp [intOf]; omega
end Go.Proofs.YtmfoiceofhcicaaGreatDoor

namespace Go.Proofs.YtmfoiceofhcicaaGreatDoor
open Go.RowKit Go.IntWalk

def lW : List PT := [⟨1, ⟨#[72, 105, 32]⟩, ⟨#[]⟩, ⟨#[]⟩, ⟨#[]⟩, 0, []⟩, ⟨3, ⟨#[]⟩, ⟨#[110]⟩, ⟨#[]⟩, ⟨#[]⟩, 0, []⟩]
def cW : List UInt8 := codeF 10 lW
def pW : List ByteArray := match readF cW with | some (P, _, _) => P | none => []
def oW : List OT := match readF cW with | some (_, o, _) => o | none => []
theorem w20_form : (formF 10 lW).2 = 0 := by kernel_rfl
theorem w20_len : cW.length = 25 := by kernel_rfl
theorem w20_read : readF cW = some (pW, oW, lW) := by kernel_rfl
theorem w20_bound : boundF oW = 3 := by kernel_rfl
theorem w20_bulk : bulkF 10 lW ≤ 900000000 := of_decide_eq_true (by kernel_rfl)
theorem w20_ops : oW.length = 3 := by kernel_rfl
theorem w20_last : (oW[2]?).map OT.k = some 0 := by kernel_rfl
theorem w20_ts : oW.map OT.ts = [[], [], []] := by kernel_rfl
theorem w20_next : NextO oW := fun i o ho hk _ => by
  have hl := (List.getElem?_eq_some_iff.1 ho).1
  have h3 := w20_ops
  by_cases h2 : i = 2
  · subst h2
    have := w20_last
    rw [ho] at this
    exact absurd (Option.some.inj this) hk
  · omega
theorem w20_tb : ∀ o ∈ oW, o.ts.length ≤ 65535 ∧ ∀ t ∈ o.ts, t < 4294967296 := fun o ho => by
  have h : o.ts ∈ oW.map OT.ts := List.mem_map_of_mem ho
  rw [w20_ts] at h
  have h0 : o.ts = [] := by simpa using h
  rw [h0]
  exact ⟨by simp, by simp⟩
set_option maxRecDepth 100000 in
set_option maxHeartbeats 2000000 in
/-- wakes is true. -/
theorem wakes20_any {B : Nat} (w : World) (hE : EnvM B w) :
    Calls Tryz.prog 9 #[] w fun e w' => e = .returned (.bool true) ∧ Keep [] w w' := by
  have HE := Lib.hid hE
  have hb : Blk (w.alloc (.cells #[.int .i64 1, .string ⟨#[72, 105, 32]⟩, .string ⟨#[]⟩, .string ⟨#[]⟩, .string ⟨#[]⟩, .int .i64 0, .slice none 0 0, .int .i64 3, .string ⟨#[]⟩, .string ⟨#[110]⟩, .string ⟨#[]⟩, .string ⟨#[]⟩, .int .i64 0, .slice none 0 0] 68)) w.heap.size 68 _ := Blk.new _ _ _
  have hkA : Keep [] w (w.alloc (.cells #[.int .i64 1, .string ⟨#[72, 105, 32]⟩, .string ⟨#[]⟩, .string ⟨#[]⟩, .string ⟨#[]⟩, .int .i64 0, .slice none 0 0, .int .i64 3, .string ⟨#[]⟩, .string ⟨#[110]⟩, .string ⟨#[]⟩, .string ⟨#[]⟩, .int .i64 0, .slice none 0 0] 68)) := (Keep.refl _ _).alloc _
  have hL : Lies 10 (fun x => x = w.heap.size) (w.alloc (.cells #[.int .i64 1, .string ⟨#[72, 105, 32]⟩, .string ⟨#[]⟩, .string ⟨#[]⟩, .string ⟨#[]⟩, .int .i64 0, .slice none 0 0, .int .i64 3, .string ⟨#[]⟩, .string ⟨#[110]⟩, .string ⟨#[]⟩, .string ⟨#[]⟩, .int .i64 0, .slice none 0 0] 68)) (.slice (some ⟨w.heap.size, 0, none⟩) 2 2) lW := by
    refine ⟨[.slice none 0 0, .slice none 0 0], rfl, ⟨_, 2, rfl, by simp [lW], by simp [maxLen], fun _ => ⟨w.heap.size, 0, rfl, rfl, hb.lt, fun j u hu => ?_⟩⟩, fun i p cv hp hv => ?_⟩
    · rw [Nat.zero_add, hb.cell, ← hu]
      simp [partC, lW, PT.cells]
    · have hi : i < 2 := (List.getElem?_eq_some_iff.1 hp).1
      have h01 : i = 0 ∨ i = 1 := by omega
      rcases h01 with rfl | rfl
      · simp only [lW, List.getElem?_cons_zero, Option.some.injEq] at hp hv
        rw [← hp, ← hv]
        exact LiesC.nil _ _ _
      · simp only [lW, List.getElem?_cons_succ, List.getElem?_cons_zero, Option.some.injEq] at hp hv
        rw [← hp, ← hv]
        exact LiesC.nil _ _ _
  have hC := ccompile_any 10 lW _ _ B _ (hE.keep hkA (by simp)) hL (fun x hx => by rw [hx]; exact hb.lt) w20_bulk
  unfold CompO at hC
  rw [w20_form] at hC
  have hcl : (codeF 10 lW).length = 25 := w20_len
  have HC : Hid (Calls Tryz.prog 11 #[.slice (some ⟨w.heap.size, 0, none⟩) 2 2] (w.alloc (.cells #[.int .i64 1, .string ⟨#[72, 105, 32]⟩, .string ⟨#[]⟩, .string ⟨#[]⟩, .string ⟨#[]⟩, .int .i64 0, .slice none 0 0, .int .i64 3, .string ⟨#[]⟩, .string ⟨#[110]⟩, .string ⟨#[]⟩, .string ⟨#[]⟩, .int .i64 0, .slice none 0 0] 68)) fun e w' => Keep [] w w' ∧ ∃ A c, e = .returned (.tuple #[.slice A 25 c, .int .i64 0]) ∧ RdU w' (.slice A 25 c) cW) := by
    refine hC.mono ?_
    rintro e w' ⟨h, hk⟩
    refine ⟨hkA.nil hk, ?_⟩
    rcases h with h | h | h
    · exact absurd rfl h.1
    · omega
    · obtain ⟨-, -, u, rfl, ho⟩ := h
      obtain ⟨A, c, rfl⟩ := ho.form
      rw [hcl] at ho ⊢
      exact ⟨A, c, rfl, ho.reads⟩
  have HB : Hid (∀ W v, Keep [] w W → RdU W v cW → Calls Tryz.prog 13 #[v] W fun e w' => e = .returned (.tuple #[.int .i64 3, .int .i64 0]) ∧ Keep [] W w') := fun W v hW hv => by
    have h := bound_any W B v cW (HE.out.keep hW (by simp)) hv (by rw [w20_len]; omega) (small_b (by rw [w20_len]; omega)) pW oW lW w20_read (by rw [w20_ops]; omega) w20_next w20_tb
    rw [w20_bound] at h
    exact h
  clear hE hb hkA hL hC hcl
  go_enter Tryz.func9, Tryz.ntmps9
  go_wp2_with (first
    | (go_at_call 11; refine HC.out.mono ?_; rintro e w1 ⟨hk1, A1, c1, rfl, hr1⟩; have HB1 := Lib.hid (HB.out w1 _ hk1 hr1); have HK1 := Lib.hid hk1; clear hk1 hr1)
    | (go_at_call 13; refine HB1.out.mono ?_; rintro e w2 ⟨rfl, hk2⟩; have HK2 := Lib.hid hk2; clear hk2))
  go_ret
  exact ⟨rfl, HK1.out.nil HK2.out⟩
end Go.Proofs.YtmfoiceofhcicaaGreatDoor

namespace Go.Proofs.YtmfoiceofhcicaaGreatDoor
open Go.RowKit Go.IntWalk

theorem sameF_self : ∀ (n : Nat) (l : List PT), sameF n l l = true
  | 0, _ => rfl
  | n + 1, l => sameL_refl (sameF_self n) l
end Go.Proofs.YtmfoiceofhcicaaGreatDoor

namespace Go.Proofs.YtmfoiceofhcicaaGreatDoor

def sumT : List ByteArray → Nat
  | [] => 0
  | s :: r => 2 + s.size + sumT r
theorem sumT_append : ∀ a b : List ByteArray, sumT (a ++ b) = sumT a + sumT b
  | [], b => by simp [sumT]
  | s :: a, b => by
    simp only [List.cons_append, sumT, sumT_append a b]
    omega
theorem tabT_len : ∀ P : List ByteArray, (tabT P).length = sumT P
  | [] => rfl
  | s :: P => by
    simp only [tabT, sumT, List.length_append, w16_len, tabT_len P]
    simp
theorem sumT_add (s : ByteArray) : ∀ r : List ByteArray, sumT (addT r s) ≤ sumT r + (2 + s.size)
  | [] => by simp [addT, sumT]
  | x :: r => by
    have := sumT_add s r
    unfold addT
    split
    · simp only [sumT]; omega
    · split
      · simp only [sumT]; omega
      · simp only [sumT]; omega
theorem sumT_fold : ∀ (ts r : List ByteArray), sumT (ts.foldl addT r) ≤ sumT ts + sumT r
  | [], r => by simp [sumT]
  | s :: ts, r => by
    have h1 := sumT_fold ts (addT r s)
    have h2 := sumT_add s r
    rw [List.foldl_cons]
    simp only [sumT]
    omega
theorem sumT_pool (ts : List ByteArray) : sumT (poolF ts) ≤ sumT ts := by
  have := sumT_fold ts []
  unfold poolF
  simpa [sumT] using this
theorem sumT_opt (t : ByteArray) (X : List UInt8) : sumT (optT t) ≤ 2 + (if noB t then [] else X ++ t.data.toList : List UInt8).length := by
  unfold optT
  split
  · exact Nat.zero_le _
  · have : t.data.toList.length = t.size := by simp
    simp only [sumT, List.length_append]
    omega
section
variable {L : List PT → Nat} {T : List PT → List ByteArray}
theorem lenC_write {W : List PT → List UInt8} {R : List PT → Bool} {k : Int} (hI : ∀ m, R m = true → L m + sumT (T m) ≤ 14 * (W m).length) : ∀ (cs : List CT) (ks : List ByteArray) (b : Bool), caseR R k ks cs = true → 6 * cs.length + lenC L cs + sumT (caseT T cs) ≤ 14 * (caseW W b cs).length
  | [], _, _, _ => by simp [lenC, caseT, sumT]
  | c :: cs, ks, b, h => by
    simp only [caseR, Bool.and_eq_true] at h
    have h1 := lenC_write hI cs _ true h.2
    have h2 := hI c.2 h.1.2
    have h3 : c.1.data.toList.length = c.1.size := by simp
    simp only [lenC, caseT, caseW, sumT, sumT_append, List.length_append, List.length_cons, List.length_nil]
    omega
theorem lenP_write {W : List PT → Bool → List UInt8} {R : List PT → Bool → Bool} (hI : ∀ m h, R m h = true → L m + sumT (T m) ≤ 14 * (W m h).length) (p : PT) (h : Bool) (hp : plainB p h = true) (hc : caseR (fun m => R m (decide (p.k ≠ 4))) p.k [] p.cs = true) :
    lenP L p + sumT (partT T p) ≤ 14 * (partW W h p).length := by
  have hn : p.nm.data.toList.length = p.nm.size := by simp
  unfold plainB at hp
  unfold partW lenP partT
  by_cases h1 : p.k = 1
  · rw [if_pos h1] at hp ⊢
    rw [if_pos h1, if_pos h1]
    simp only [Bool.and_eq_true, Bool.not_eq_true', decide_eq_true_iff] at hp
    obtain ⟨⟨⟨⟨⟨⟨a1, a2⟩, a3⟩, a4⟩, a5⟩, a6⟩, a7⟩ := hp
    have hd := dressL_ge h p.tx.data.toList
    have ht : p.tx.data.toList.length = p.tx.size := by simp
    have h0 : p.tx.size ≠ 0 := of_decide_eq_false a1
    simp only [sumT]
    omega
  · rw [if_neg h1] at hp ⊢
    rw [if_neg h1, if_neg h1]
    by_cases h2 : p.k = 2
    · rw [if_pos h2, if_pos h2, if_pos h2]
      simp [sumT]
    · rw [if_neg h2] at hp ⊢
      rw [if_neg h2, if_neg h2]
      by_cases h3 : p.k = 3
      · rw [if_pos h3, if_pos h3, if_pos h3]
        have e1 := sumT_opt p.ty [44, 32]
        have e2 := sumT_opt p.st [44, 32]
        simp only [sumT, sumT_append, List.length_append, List.length_cons, List.length_nil] at e1 e2 ⊢
        omega
      · rw [if_neg h3] at hp ⊢
        rw [if_neg h3, if_neg h3]
        by_cases h4 : p.k = 4 ∨ p.k = 5 ∨ p.k = 6
        · rw [if_pos h4]
          have hb := lenC_write (W := fun m => W m (decide (p.k ≠ 4))) (fun m hm => hI m _ hm) p.cs [] false hc
          simp only [sumT, List.length_append, List.length_cons, List.length_nil]
          omega
        · rw [if_neg h4] at hp
          cases hp
theorem lenL_write {W : List PT → Bool → List UInt8} {R : List PT → Bool → Bool} (hI : ∀ m h, R m h = true → L m + sumT (T m) ≤ 14 * (W m h).length) (h : Bool) : ∀ (l : List PT) (q : Int), rightL R h q l = true → lenL L l + sumT (textL T l) ≤ 14 * (writeL W h l).length
  | [], _, _ => by simp [lenL, textL, sumT]
  | p :: l, q, hr => by
    simp only [rightL, Bool.and_eq_true] at hr
    have h1 := lenL_write hI h l _ hr.2
    have h2 := lenP_write hI p h hr.1.1.1.1 hr.1.1.2
    simp only [lenL, textL, writeL, sumT_append, List.length_append]
    omega
end
theorem len_write : ∀ (n : Nat) (l : List PT) (h : Bool), rightF n l h = true → lenF n l + sumT (textF n l) ≤ 14 * (writeF n l h).length
  | 0, _, _, h => by cases h
  | n + 1, l, h, hr => lenL_write (len_write n) h l 0 hr
/-- A message's code is short, and never empty. -/
theorem code_short {n : Nat} {l : List PT} (h : (formF n l).2 = 0) : (codeF n l).length ≤ 57351 ∧ 7 ≤ (codeF n l).length := by
  have hr := (form_fine h).1
  have hw : (writeF n l false).length ≤ 4096 := by
    unfold formF at h
    rw [hr, if_neg (by decide)] at h
    split at h
    · cases h
    · omega
  have h1 := len_write n l false hr
  have h2 := sumT_pool (textF n l)
  have h3 := tabT_len (poolF (textF n l))
  unfold codeF
  simp only [List.length_append, w16_len, w32_len, codF_len, List.length_cons, List.length_nil]
  omega
end Go.Proofs.YtmfoiceofhcicaaGreatDoor

namespace Go.Proofs.YtmfoiceofhcicaaGreatDoor
open Go.RowKit Go.IntWalk

/-- append of bytes to bytes of the call's own, at a step of a region that draws its order. -/
theorem step_append_us {ops : Array Oper} {o : Oper} {a : Act} {K : Act → World → Prop} {Q : Exit → Act → World → Prop} {E : Prop} (hgd : o.guard = none) (s x : Operand)
    (ho : o.op = .call { callee := .builtin .append, args := #[s, x], argTypes := #[25, 25] }) {w : World} {B : Nat} {v : Value} {l : List UInt8}
    (hs : a.eval s = v) (hown : OwnU w B v l) (ys : List UInt8) (ad : Addr) (cap m : Nat) (hm : m = ys.length) (hx : a.eval x = .slice (some ad) m cap) (hc : ∀ j u, (ys.map cellU)[j]? = some u → w.cell? (ad.add j) = some u)
    (hlen : l.length + ys.length ≤ 1000000000000) (hB : B ≤ w.heap.size)
    (h : ∀ A' cap' w', OwnU w' B (.slice A' (l.length + m) cap') (l ++ ys) → Keep v.ownBlock.toList w w' → K (a.put o.dst (.slice A' (l.length + m) cap')) w') :
    if Region.wanted o (yielded ops a.tmps) = true then Oper.wp Tryz.prog o a w K Q else E := by
  have hw : Region.wanted o (yielded ops a.tmps) = true := by simp [Region.wanted, hgd]
  rw [if_pos hw]
  subst hm
  obtain ⟨i0, hi, hz0, hz1, hz2⟩ := info_parts infoU
  refine wp_append_own _ s x 25 ho B 5 i0 _ 1 1 Tryz.underlying25 hi hz0 hz1 hz2 rfl (by decide) v l.length (l.map cellU) hs hown ad ys.length cap (ys.map cellU) hx (by simp) hc ?_ (by unfold maxLen; omega) (by omega) hB ?_
  · intro u hu
    obtain ⟨b, _, rfl⟩ := List.mem_map.1 hu
    rfl
  · intro v' w' h1 h2 _
    have hO : OwnU w' B v' (l ++ ys) := by
      unfold OwnU
      rw [List.map_append, List.length_append]
      exact h1
    obtain ⟨A', cap', hv'⟩ := hO.form
    rw [List.length_append] at hv'
    subst hv'
    exact h A' cap' w' hO ((Keep.refl _ w).grown h2 fun k hk => .inl (by simpa using hk))
/-- append of one byte. -/
theorem step_snoc_u {ops : Array Oper} {o : Oper} {a : Act} {K : Act → World → Prop} {Q : Exit → Act → World → Prop} {E : Prop} (hgd : o.guard = none) (s x : Operand)
    (ho : o.op = .call { callee := .builtin .append, args := #[s, x], argTypes := #[25, 25] }) {w : World} {B n : Nat} {A : Option Addr} {cap : Nat} {C : List UInt8}
    (hs : a.eval s = .slice A C.length cap) (hown : OwnU w B (.slice A C.length cap) C) (y : UInt8) (hx : a.eval x = .slice (some ⟨n, 0, none⟩) 1 1) (hc : w.cell? ⟨n, 0, none⟩ = some (cellU y))
    (hlen : C.length ≤ 1000000000) (hB : B ≤ w.heap.size)
    (h : ∀ A' cap' w', OwnU w' B (.slice A' (C.length + 1) cap') (C ++ [y]) → Keep (Value.slice A C.length cap).ownBlock.toList w w' → K (a.put o.dst (.slice A' (C.length + 1) cap')) w') :
    if Region.wanted o (yielded ops a.tmps) = true then Oper.wp Tryz.prog o a w K Q else E :=
  step_append_us hgd s x ho hs hown [y] ⟨n, 0, none⟩ 1 1 rfl hx (fun j u hu => by
    cases j with
    | zero =>
      obtain rfl : cellU y = u := by simpa using hu
      exact hc
    | succ j => simp at hu) (by simp; omega) hB h
theorem RdU.pre {w : World} {A : Option Addr} {m c : Nat} {l : List UInt8} (h : RdU w (.slice A m c) l) (k : Nat) (hk : k ≤ l.length) : RdU w (.slice A k c) (l.take k) := by
  obtain ⟨A', c', e, h1, h2, h3⟩ := h
  injection e with e1 e2 e3
  subst e1 e2 e3
  have hl : (l.take k).length = k := by rw [List.length_take]; omega
  refine ⟨A, c, by rw [hl], by omega, h2, fun h0 => ?_⟩
  obtain ⟨b, o, g1, g2, g3, g4⟩ := h3 (by omega)
  refine ⟨b, o, g1, g2, g3, fun j u hu => g4 j u ?_⟩
  rw [List.map_take, List.getElem?_take] at hu
  split at hu
  · exact hu
  · cases hu
theorem RdU.cells {w : World} {A : Option Addr} {m c : Nat} {l : List UInt8} (h : RdU w (.slice A m c) l) (hl : 0 < l.length) : ∃ b o, A = some ⟨b, o, none⟩ ∧ m = l.length ∧ l.length ≤ c ∧ c ≤ maxLen ∧ b < w.heap.size ∧ ∀ j u, (l.map cellU)[j]? = some u → w.cell? ((⟨b, o, none⟩ : Addr).add j) = some u := by
  obtain ⟨A', c', e, h1, h2, h3⟩ := h
  injection e with e1 e2 e3
  subst e1 e2 e3
  obtain ⟨b, o, g1, g2, g3, g4⟩ := h3 hl
  refine ⟨b, o, g1, rfl, h1, h2, g3, fun j u hu => ?_⟩
  have hadd : (⟨b, o, none⟩ : Addr).add j = ⟨b, o + j, none⟩ := by unfold Addr.add; split <;> simp_all
  rw [hadd]
  exact g4 j u hu
end Go.Proofs.YtmfoiceofhcicaaGreatDoor
