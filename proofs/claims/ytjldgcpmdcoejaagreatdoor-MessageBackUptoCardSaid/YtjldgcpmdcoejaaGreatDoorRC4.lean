/- Walks: vernacularlaw19.small; vernacularref19.Size, Depth. Walks: form, Print, Check of messages. Walks: plain, right, form, Print, Check of messages at any parts; vernacularref19.Check's plain side. Walks: wakes of the law of messages; message.Plain. Plain: parts that may be are not of more bulk than twice their one form. No walk. Plain: the reader comes to an end within its fuel, and what it refuses has a number. No walk. Parts that came in, opened. Walks: vernacularlaw19.MessageBack: it answers true. MessageBack holds, in its second form: a message that is printed is read as the same one, for every text and every list of parts of bounded bulk. The library's variables as the program's text lays them, tied by the card. -/
import Derived.Test.YtjldgcpmdcoejaaGreatDoorPB
import Derived.Test.YtjldgcpmdcoejaaGreatDoorPU
import Derived.Test.YtjldgcpmdcoejaaGreatDoorPZ
import Derived.Test.YtjldgcpmdcoejaaGreatDoorPT3
import Derived.Test.YtjldgcpmdcoejaaGreatDoorRC5
import Derived.Test.YtjldgcpmdcoejaaGreatDoorRC2
import Derived.Test.YtjldgcpmdcoejaaGreatDoorML
import Derived.Test.YtjldgcpmdcoejaaGreatDoorRM
import Derived.Test.YtjldgcpmdcoejaaGreatDoorRC3
import Derived.Test.YtjldgcpmdcoejaaGreatDoorRC1
import Derived.Deep.DeepWitnessRowRef
namespace Go.Proofs.YtjldgcpmdcoejaaGreatDoor
open Go.RowKit

/-- A bool comes back. -/
def BoolRet (e : Ending) : Prop := ∃ b, e = .returned (.bool b)
set_option maxRecDepth 100000 in
set_option maxHeartbeats 4000000 in
/-- vernacularlaw19.small: it ends, and moves nothing. -/
theorem small_any : ∀ (n : Nat) (l : List PT) (d : Int) (S : Nat → Prop) (v : Value) (w : World), Lies n S w v l → bulkF n l ≤ 1000000000 → 0 ≤ d → d ≤ 41 →
    Calls Tryz.prog 10 #[v, .int .i64 d] w fun e w' => BoolRet e ∧ Keep [] w w'
  | 0, _, _, _, _, _, h, _, _, _ => h.elim
  | n + 1, l, d, S, v, w, h, hb, hd0, hd => by
    obtain ⟨A, cap, rfl, hml, hat⟩ := lies_open h
    have HAT := Lib.hid hat
    have HIH := Lib.hid (small_any n)
    have hll : l.length ≤ 1000000000 := by have := bulkL_len (bulkF n) l; simp only [bulkF] at hb; omega
    have HB := Lib.hid hb
    clear h hat hml hb
    by_cases h40 : 40 < d
    · go_enter Tryz.func10, Tryz.ntmps10
      go_wp2
      go_ret
      exact ⟨⟨_, rfl⟩, Keep.refl _ _⟩
    · have h40' : d ≤ 40 := by omega
      by_cases h12 : 1200 < l.length
      · have h12' : (1200 : Int) < l.length := by omega
        go_enter Tryz.func10, Tryz.ntmps10
        go_wp2
        go_ret
        exact ⟨⟨_, rfl⟩, Keep.refl _ _⟩
      · have h12' : ¬ (1200 : Int) < l.length := by omega
        go_enter Tryz.func10, Tryz.ntmps10
        go_wp2
        go_loopw [18] (fun i wr => ∃ k : Nat, k ≤ l.length ∧ i = .int .i64 k ∧ Keep [] w wr) (fun i _ => l.length - (intOf i).toNat)
        case atStart => exact ⟨0, Nat.zero_le _, rfl, Keep.refl _ _⟩
        case round =>
          obtain ⟨k, hk, rfl, hK⟩ := hrel
          have HK := Lib.hid hK
          clear hK
          by_cases hlt : k < l.length
          · obtain ⟨p, hp⟩ : ∃ p, l[k]? = some p := ⟨_, List.getElem?_eq_getElem hlt⟩
            obtain ⟨b, o, cv, rfl, hb, hP, hC⟩ := HAT.out k p hp
            obtain ⟨a0, a1, a2, a3, a4, a5, a6⟩ := hP.keep HK.out hb
            have hC1 := hC.keep HK.out (by simp)
            obtain ⟨Ac, cc, rfl⟩ := hC1.formL
            have hbk := bulkL_at (bulkF n) l k p hp
            have hbL : bulkL (bulkF n) l ≤ 1000000000 := HB.out
            have HC := Lib.hid hC1
            have hcl : p.cs.length ≤ 1000000000 := by have := bulkC_len (bulkF n) p.cs; omega
            have hbr := Nat.lt_of_lt_of_le hb HK.out.size
            clear hP hC hC1 hp
            have hKx : Keep [] wr (wr.alloc (.cells #[.int .i64 p.k, .string p.tx, .string p.nm, .string p.ty, .string p.st, .int .i64 p.off, .slice Ac p.cs.length cc] 47)) := (Keep.refl [] wr).alloc _
            have HKX := Lib.hid (HK.out.nil hKx)
            have HC2 := Lib.hid (HC.out.keep hKx (by simp))
            clear hKx HC
            by_cases h100 : 100 < p.cs.length
            · have h100' : (100 : Int) < p.cs.length := by omega
              go_wp2
              go_ret
              exact ⟨⟨_, rfl⟩, HKX.out⟩
            · have h100' : ¬ (100 : Int) < p.cs.length := by omega
              go_wp2
              clear a0 a1 a2 a3 a4 a5 a6
              generalize wr.alloc (.cells #[.int .i64 p.k, .string p.tx, .string p.nm, .string p.ty, .string p.st, .int .i64 p.off, .slice Ac p.cs.length cc] 47) = W1 at *
              generalize wr.heap.size = bx at *
              obtain ⟨A2, cap2, he, _, hcat⟩ := liesC_open HC2.out
              injection he with he1 he2 he3
              subst he1; subst he3
              have HCAT := Lib.hid hcat
              clear hcat
              go_loopw [29] (fun j wx => ∃ m : Nat, m ≤ p.cs.length ∧ j = .int .i64 m ∧ Keep [] W1 wx) (fun j _ => p.cs.length - (intOf j).toNat)
              case atStart => exact ⟨0, Nat.zero_le _, rfl, Keep.refl _ _⟩
              case round =>
                obtain ⟨m, hm, rfl, hKi⟩ := hrel
                have HKi := Lib.hid hKi
                clear hKi
                by_cases hlt2 : m < p.cs.length
                · obtain ⟨c, hc⟩ : ∃ c, p.cs[m]? = some c := ⟨_, List.getElem?_eq_getElem hlt2⟩
                  obtain ⟨b2, o2, pv, rfl, hb2, e1, e2, hL⟩ := HCAT.out m c hc
                  have e1' := (HKi.out.cell (p := ⟨b2, o2 + m * 2, none⟩) hb2 (by simp)).trans e1
                  have e2' := (HKi.out.cell (p := ⟨b2, o2 + m * 2 + 1, none⟩) hb2 (by simp)).trans e2
                  obtain ⟨Ap, mp, kp, rfl⟩ := hL.form
                  have hbr2 := Nat.lt_of_lt_of_le hb2 HKi.out.size
                  have hbc := bulkC_at (bulkF n) p.cs m c hc
                  have hS : Hid (∀ W, Keep [] W1 W → Calls Tryz.prog 10 #[.slice Ap mp kp, .int .i64 (d + 1)] W fun e w' => BoolRet e ∧ Keep [] W w') := fun W hW => HIH.out c.2 (d + 1) S _ W (hL.keep hW (by simp)) (by omega) (by omega) (by omega)
                  have m1 : IntKind.i64.wrap (d + 1) = d + 1 := IntWalk.i64_in _ (by omega)
                  clear e1 e2 hL hc
                  go_wp2_with (go_at_call 10; refine (hS.out _ (HKi.out.alloc _)).mono ?_; rintro e w5 ⟨⟨q, rfl⟩, hk5⟩; have HK5 := Lib.hid hk5; clear hk5; cases q)
                  all_goals first
                    | (go_ret; exact ⟨⟨_, rfl⟩, HKX.out.nil ((HKi.out.alloc _).nil HK5.out)⟩)
                    | (go_roundw
                       case rel => exact ⟨m + 1, by omega, by go_num, (HKi.out.alloc _).nil HK5.out⟩
                       case measure => simp [intOf]; omega)
                · obtain rfl : m = p.cs.length := by omega
                  go_wp2
                  go_roundw
                  case rel => exact ⟨k + 1, by omega, by go_num, HKX.out.nil HKi.out⟩
                  case measure => simp [intOf]; omega
          · go_wp2
            go_ret
            exact ⟨⟨_, rfl⟩, HK.out⟩
end Go.Proofs.YtjldgcpmdcoejaaGreatDoor

namespace Go.Proofs.YtjldgcpmdcoejaaGreatDoor
open Go.RowKit

def formV (r : List UInt8 × Int) : Value := .tuple #[.string ⟨r.1.toArray⟩, .int .i64 r.2]
set_option maxRecDepth 100000 in
set_option maxHeartbeats 8000000 in
/-- form. -/
theorem form_any (n : Nat) (l : List PT) (S : Nat → Prop) (v : Value) (B : Nat) (w : World) (hE : EnvM B w) (hh : Lies n S w v l) (hS : ∀ x, S x → x < w.heap.size) (hq : allF PlainOK n l) (ho : allO offOK n l) (hb : bulkF n l ≤ 900000000) :
    Calls Tryz.prog 25 #[v] w fun e w' => e = .returned (formV (formF n l)) ∧ Keep [] w w' := by
  obtain ⟨A, m, cap, rfl⟩ := hh.form
  have HR : Hid (Calls Tryz.prog 51 #[.slice A m cap, .bool false] w fun e w' => e = .returned (.bool (rightF n l false)) ∧ Keep [] w w') := right_any n l false S _ B w hE hh hq (by omega)
  obtain ⟨f, hf⟩ : ∃ f, formF n l = f := ⟨_, rfl⟩
  have HF : Hid (formF n l = f) := hf
  rw [hf]
  cases hr : rightF n l false with
  | false =>
    rw [hr] at HR
    have hf1 : f = ([], 2) := by rw [← hf]; unfold formF; rw [if_pos hr]
    subst hf1
    clear hE hh hq ho hb hf HF hr hS
    go_enter Tryz.func25, Tryz.ntmps25
    go_wp2_with (go_at_call 51; refine HR.out.mono ?_; rintro e w1 ⟨rfl, hk1⟩; have HK1 := Lib.hid hk1; clear hk1)
    exact bodyPost_ret (v := formV ([], 2)) (by simp [results, Tryz.results25, go_sem, formV]) rfl ⟨rfl, HK1.out⟩
  | true =>
    rw [hr] at HR
    have hf1 : f = if 1024 < sizeF n l ∨ 8 < depthF n l ∨ 4096 < (writeF n l false).length then ([], 3) else (writeF n l false, 0) := by rw [← hf]; unfold formF; rw [if_neg (by rw [hr]; decide)]
    have HF1 := Lib.hid hf1
    have HL := Lib.hid hh
    have HE := Lib.hid hE
    have HS := Lib.hid hS
    have HO := Lib.hid ho
    have HSZ : ∀ W, Lies n S W (.slice A m cap) l → Hid (Calls Tryz.prog 53 #[.slice A m cap] W fun e w' => e = .returned (.int .i64 (sizeF n l)) ∧ Keep [] W w') := fun W hW => size_any n l S _ W hW (by omega)
    have HDP : ∀ W, Lies n S W (.slice A m cap) l → Hid (Calls Tryz.prog 22 #[.slice A m cap] W fun e w' => e = .returned (.int .i64 (depthF n l)) ∧ Keep [] W w') := fun W hW => depth_any n l S _ W hW (by omega)
    have HWR : ∀ b W, EnvM B W → B ≤ b → Lies n S W (.slice A m cap) l → (∀ x, S x → x < b) → Bld b [] W → Hid (Calls Tryz.prog 52 #[.pointer (some ⟨b, 0, none⟩), .slice A m cap, .bool false] W (WPost b [] (writeF n l false) W)) := fun b W h1 h2 h3 h4 h5 => write_any n l false S _ b [] B W h1 h2 h3 h4 h5 ho (by omega) (by simp; omega)
    have hwl := allO_len n l false ho
    have hnw : (writeF n l false).length ≤ 90000000000 := by omega
    clear hE hh hq ho hb hf HF hr hS hf1 hwl
    generalize sizeF n l = sz at *
    generalize depthF n l = dp at *
    generalize writeF n l false = out at *
    go_enter Tryz.func25, Tryz.ntmps25
    go_wp2_with (first
      | (go_at_call 51; refine HR.out.mono ?_; rintro e w1 ⟨rfl, hk1⟩; have HK1 := Lib.hid hk1; have HB1 := Lib.hid hk1.toBelow; have HL1 := Lib.hid (HL.out.keep hk1 (by simp)); have HE1 := Lib.hid (HE.out.keep hk1 (by simp)); clear hk1)
      | (go_at_call 52; refine (HWR w1.heap.size (w1.alloc (.cells #[.pointer none, .slice none 0 0] 83)) (HE1.out.keep ((Keep.refl [] w1).alloc _) (by simp)) HE1.out.env.le (HL1.out.keep (bs := []) ((Keep.refl [] w1).alloc _) (by simp)) (fun x hx => Nat.lt_of_lt_of_le (HS.out x hx) HB1.out.size) (Bld.new' w1 _ rfl)).out.mono ?_; rintro e w2 ⟨rfl, hb2, hk2⟩; have hz1 := HB1.out.size; have HB2 := Lib.hid (HB1.out.trans ((((Keep.refl [] w1).alloc _).toBelow.trans (hk2.below.mono (Nat.le_refl _))).mono hz1)); have HBB2 := Lib.hid hb2; have HL2 := Lib.hid (HL1.out.keep (bs := []) (Keep.of_below (((Keep.refl [] w1).alloc _).toBelow.trans (hk2.below.mono (Nat.le_refl _)))) (by simp)); clear hb2 hk2)
      | (go_at_call 53; refine (HSZ _ HL2.out).out.mono ?_; rintro e w3 ⟨rfl, hk3⟩; have HL3 := Lib.hid (HL2.out.keep hk3 (by simp)); have HBB3 := Lib.hid (HBB2.out.keep_nil hk3); have HB3 := Lib.hid (HB2.out.trans (hk3.toBelow.mono HB2.out.size)); clear hk3)
      | (go_at_call 22; refine (HDP _ HL3.out).out.mono ?_; rintro e w4 ⟨rfl, hk4⟩; have HBB4 := Lib.hid (HBB3.out.keep_nil hk4); have HB4 := Lib.hid (HB3.out.trans (hk4.toBelow.mono HB3.out.size)); clear hk4)
      | (go_at_call 54; refine (bld_len HBB4.out).mono ?_; rintro e w5 ⟨rfl, hw5⟩; subst hw5)
      | (go_at_call 55; refine (bld_str HBB4.out).mono ?_; rintro e w6 ⟨rfl, _, hb6, _⟩; have HB6 := Lib.hid (HB4.out.trans (hb6.mono (by have := HB1.out.size; omega))); clear hb6))
    all_goals
      first
        | (have hf : f = ([], 3) := by (rw [HF1.out, if_pos (by omega)])
           subst hf
           refine bodyPost_ret (v := formV ([], 3)) (by simp [results, Tryz.results25, go_sem, formV]) rfl ⟨rfl, ?_⟩
           first | exact Keep.of_below HB4.out | exact Keep.of_below HB3.out)
        | (have hf : f = (out, 0) := by (rw [HF1.out, if_neg (by omega)])
           subst hf
           exact bodyPost_ret (v := formV (out, 0)) (by simp [results, Tryz.results25, go_sem, formV]) rfl ⟨rfl, Keep.of_below HB6.out⟩)
set_option maxRecDepth 100000 in
/-- Print. -/
theorem print_any (n : Nat) (l : List PT) (S : Nat → Prop) (v : Value) (B : Nat) (w : World) (hE : EnvM B w) (hh : Lies n S w v l) (hS : ∀ x, S x → x < w.heap.size) (hq : allF PlainOK n l) (ho : allO offOK n l) (hb : bulkF n l ≤ 900000000) :
    Calls Tryz.prog 11 #[v] w fun e w' => e = .returned (formV (formF n l)) ∧ Keep [] w w' := by
  have HF := Lib.hid (form_any n l S v B w hE hh hS hq ho hb)
  clear hE hh hS hq ho hb
  generalize formF n l = f at *
  obtain ⟨r, e⟩ := f
  unfold formV at HF ⊢
  go_enter Tryz.func11, Tryz.ntmps11
  go_wp2_with (go_at_call 25; refine HF.out.mono ?_; rintro e w1 ⟨rfl, hk1⟩; have HK1 := Lib.hid hk1; clear hk1)
  exact bodyPost_ret (v := .tuple #[.string ⟨r.toArray⟩, .int .i64 e]) (by simp [results, Tryz.results11, go_sem]) rfl ⟨rfl, HK1.out⟩
end Go.Proofs.YtjldgcpmdcoejaaGreatDoor

namespace Go.Proofs.YtjldgcpmdcoejaaGreatDoor
open Go.RowKit

theorem plain_all (p : PT) (h1 : p.tx.size ≤ 1000000000) (h2 : p.nm.size ≤ 1000000000) (h3 : p.st.size ≤ 1000000000) : PlainOK p := fun h A c B w hE => by
  by_cases hk1 : p.k = 1
  · exact plain_1 p h A c w hk1 h1
  · by_cases hk2 : p.k = 2
    · exact plain_2 p h A c w hk2
    · by_cases hk3 : p.k = 3
      · by_cases ht : p.ty.size = 0
        · exact plain_3 p h A c w hk3 ht h2
        · exact plain_3t p h A c w hE hk3 ht h2 h3
      · by_cases hk4 : p.k = 4 ∨ p.k = 5 ∨ p.k = 6
        · exact plain_c p h A c w p.k rfl hk4 h2
        · exact plain_x p h A c w (by omega)
theorem allF_bulk : ∀ (n : Nat) (l : List PT), bulkF n l ≤ 1000000000 → allF PlainOK n l
  | 0, _, _ => trivial
  | n + 1, l, h => fun p hp => by
    obtain ⟨i, hi⟩ := List.getElem?_of_mem hp
    have hb := bulkL_at (bulkF n) l i p hi
    have hL : bulkL (bulkF n) l ≤ 1000000000 := h
    refine ⟨plain_all p (by omega) (by omega) (by omega), fun c hc => ?_⟩
    obtain ⟨j, hj⟩ := List.getElem?_of_mem hc
    have hc2 := bulkC_at (bulkF n) p.cs j c hj
    exact allF_bulk n c.2 (by omega)
/-- Parts that may be have kinds and offsets. -/
theorem plain_kind {p : PT} {h : Bool} (hp : plainB p h = true) : kindOK p := by
  unfold plainB at hp
  split at hp
  · simp only [Bool.and_eq_true, decide_eq_true_eq] at hp
    exact ⟨⟨by omega, by omega⟩, by omega, by omega⟩
  · split at hp
    · simp only [Bool.and_eq_true, decide_eq_true_eq] at hp
      exact ⟨⟨by omega, by omega⟩, by omega, by omega⟩
    · split at hp
      · simp only [Bool.and_eq_true, decide_eq_true_eq] at hp
        exact ⟨⟨by omega, by omega⟩, by omega, by omega⟩
      · split at hp
        · simp only [Bool.and_eq_true, decide_eq_true_eq] at hp
          exact ⟨⟨by omega, by omega⟩, by omega, by omega⟩
        · cases hp
theorem caseR_all {R : List PT → Bool} {k : Int} : ∀ (cs : List CT) (ks : List ByteArray), caseR R k ks cs = true → ∀ c ∈ cs, R c.2 = true
  | [], _, _, c, hc => by cases hc
  | d :: cs, ks, h, c, hc => by
    rw [caseR, Bool.and_eq_true, Bool.and_eq_true, Bool.and_eq_true] at h
    rcases List.mem_cons.1 hc with rfl | hc
    · exact h.1.2
    · exact caseR_all cs _ h.2 c hc
theorem right_kinds : ∀ (n : Nat) (l : List PT) (h : Bool), rightF n l h = true → allO kindOK n l
  | 0, _, _, _ => trivial
  | n + 1, l, h, hr => by
    have key : ∀ (l : List PT) (q : Int), rightL (rightF n) h q l = true → ∀ p ∈ l, kindOK p ∧ ∀ c ∈ p.cs, allO kindOK n c.2 := fun l => by
      induction l with
      | nil => intro q _ p hp; cases hp
      | cons d l ih =>
        intro q hr p hp
        rw [rightL, Bool.and_eq_true, Bool.and_eq_true, Bool.and_eq_true, Bool.and_eq_true] at hr
        rcases List.mem_cons.1 hp with rfl | hp
        · exact ⟨plain_kind hr.1.1.1.1, fun c hc => right_kinds n c.2 _ (caseR_all p.cs _ hr.1.1.2 c hc)⟩
        · exact ih _ hr.2 p hp
    exact key l 0 hr
set_option maxRecDepth 100000 in
set_option maxHeartbeats 4000000 in
/-- form, at any parts. -/
theorem form_all (n : Nat) (l : List PT) (S : Nat → Prop) (v : Value) (B : Nat) (w : World) (hE : EnvM B w) (hh : Lies n S w v l) (hS : ∀ x, S x → x < w.heap.size) (hb : bulkF n l ≤ 900000000) :
    Calls Tryz.prog 25 #[v] w fun e w' => e = .returned (formV (formF n l)) ∧ Keep [] w w' := by
  have hq := allF_bulk n l (by omega)
  cases hr : rightF n l false with
  | true => exact form_any n l S v B w hE hh hS hq (allK_off n l (right_kinds n l false hr)) hb
  | false =>
    obtain ⟨A, m, cap, rfl⟩ := hh.form
    have HR : Hid (Calls Tryz.prog 51 #[.slice A m cap, .bool false] w fun e w' => e = .returned (.bool (rightF n l false)) ∧ Keep [] w w') := right_any n l false S _ B w hE hh hq (by omega)
    rw [hr] at HR
    have hf1 : formF n l = ([], 2) := by unfold formF; rw [if_pos hr]
    rw [hf1]
    clear hE hh hq hb hr hS hf1
    go_enter Tryz.func25, Tryz.ntmps25
    go_wp2_with (go_at_call 51; refine HR.out.mono ?_; rintro e w1 ⟨rfl, hk1⟩; have HK1 := Lib.hid hk1; clear hk1)
    exact bodyPost_ret (v := formV ([], 2)) (by simp [results, Tryz.results25, go_sem, formV]) rfl ⟨rfl, HK1.out⟩
set_option maxRecDepth 100000 in
/-- Print, at any parts. -/
theorem print_all (n : Nat) (l : List PT) (S : Nat → Prop) (v : Value) (B : Nat) (w : World) (hE : EnvM B w) (hh : Lies n S w v l) (hS : ∀ x, S x → x < w.heap.size) (hb : bulkF n l ≤ 900000000) :
    Calls Tryz.prog 11 #[v] w fun e w' => e = .returned (formV (formF n l)) ∧ Keep [] w w' := by
  have HF := Lib.hid (form_all n l S v B w hE hh hS hb)
  clear hE hh hS hb
  generalize formF n l = f at *
  obtain ⟨r, e⟩ := f
  unfold formV at HF ⊢
  go_enter Tryz.func11, Tryz.ntmps11
  go_wp2_with (go_at_call 25; refine HF.out.mono ?_; rintro e w1 ⟨rfl, hk1⟩; have HK1 := Lib.hid hk1; clear hk1)
  exact bodyPost_ret (v := .tuple #[.string ⟨r.toArray⟩, .int .i64 e]) (by simp [results, Tryz.results11, go_sem]) rfl ⟨rfl, HK1.out⟩
end Go.Proofs.YtjldgcpmdcoejaaGreatDoor

namespace Go.Proofs.YtjldgcpmdcoejaaGreatDoor
open Go.RowKit

def wB : ByteArray := ⟨#[123, 110, 44, 32, 112, 108, 117, 114, 97, 108, 44, 32, 111, 102, 102, 115, 101, 116, 58, 49, 32, 61, 48, 123, 110, 111, 110, 101, 125, 32, 111, 116, 104, 101, 114, 123, 35, 32, 111, 102, 32, 123, 119, 125, 125, 125]⟩
def wL : List PT := match msgF wB (wB.size + 1) 0 false [] 0 0 with | .ok l _ _ => l | _ => []
def okB (p : PT) : Bool := decide (p.tx.size ≤ 1000000000) && decide (p.nm.size ≤ 1000000000) && (decide (p.k ≠ 3) || decide (p.ty.size = 0))
def ofB (p : PT) : Bool := decide (0 ≤ p.off) && decide (p.off ≤ 999999999)
def allQ (q : PT → Bool) : Nat → List PT → Bool
  | 0, _ => true
  | n + 1, l => l.all fun p => q p && p.cs.all fun c => allQ q n c.2
theorem allQ_F {q : PT → Bool} {Q : PT → Prop} (h : ∀ p, q p = true → Q p) : ∀ (n : Nat) (l : List PT), allQ q n l = true → allF Q n l
  | 0, _, _ => trivial
  | n + 1, l, hl => fun p hp => by
    have := List.all_eq_true.1 hl p hp
    rw [Bool.and_eq_true] at this
    exact ⟨h p this.1, fun c hc => allQ_F h n c.2 (List.all_eq_true.1 this.2 c hc)⟩
theorem allQ_O {q : PT → Bool} {Q : PT → Prop} (h : ∀ p, q p = true → Q p) : ∀ (n : Nat) (l : List PT), allQ q n l = true → allO Q n l
  | 0, _, _ => trivial
  | n + 1, l, hl => fun p hp => by
    have := List.all_eq_true.1 hl p hp
    rw [Bool.and_eq_true] at this
    exact ⟨h p this.1, fun c hc => allQ_O h n c.2 (List.all_eq_true.1 this.2 c hc)⟩
theorem okB_ok (p : PT) (h : okB p = true) : PlainOK p := by
  simp only [okB, Bool.and_eq_true, Bool.or_eq_true, decide_eq_true_eq] at h
  exact plain_ok p h.1.1 h.1.2 (fun h3 => h.2.resolve_left (fun hn => hn h3))
theorem ofB_ok (p : PT) (h : ofB p = true) : offOK p := by
  simp only [ofB, Bool.and_eq_true, decide_eq_true_eq] at h
  exact h
theorem w_msg : msgF wB (wB.size + 1) 0 false [] 0 0 = .ok wL wB.size 5 := by kernel_rfl
theorem w_brk : brk wB = -1 := by kernel_rfl
theorem w_ok : allQ okB (wB.size + 2) wL = true := by kernel_rfl
theorem w_of : allQ ofB (wB.size + 2) wL = true := by kernel_rfl
theorem w_bulk : bulkF (wB.size + 2) wL ≤ 900000000 := of_decide_eq_true (by kernel_rfl)
theorem w_form : formF (wB.size + 2) wL = (wB.data.toList, 0) := by kernel_rfl
theorem w_one : ∃ p, wL = [p] ∧ p.cs.length = 2 := ⟨wL.head (by intro h; exact absurd (congrArg List.length h) (by decide +kernel)), by kernel_rfl, by kernel_rfl⟩
set_option maxRecDepth 100000 in
set_option maxHeartbeats 2000000 in
/-- wakes is true. -/
theorem wakes_any {B : Nat} (w : World) (hE : EnvM B w) :
    Calls Tryz.prog 9 #[] w fun e w' => e = .returned (.bool true) ∧ Keep [] w w' := by
  have HE := Lib.hid hE
  obtain ⟨p, hp1, hp2⟩ := w_one
  have HP : Hid (Calls Tryz.prog 18 #[.string wB] w fun e w' => ∃ u S, e = .returned (.tuple #[u, .agg #[.int .i64 0, .int .i64 0]]) ∧ Lies (wB.size + 1 + 1) S w' u wL ∧ (∀ b, S b → w.heap.size ≤ b ∧ b < w'.heap.size) ∧ Keep [] w w') := parse_ok wB w hE (by decide) (by rw [w_brk]; decide) wL 5 w_msg
  have HPR : ∀ (S : Nat → Prop) (v : Value) W, EnvM B W → Lies (wB.size + 1 + 1) S W v wL → (∀ x, S x → x < W.heap.size) → Hid (Calls Tryz.prog 11 #[v] W fun e w' => e = .returned (.tuple #[.string wB, .int .i64 0]) ∧ Keep [] W w') := fun S v W h1 h2 h3 => by
    have := print_any (wB.size + 2) wL S v B W h1 h2 h3 (allQ_F okB_ok _ _ w_ok) (allQ_O ofB_ok _ _ w_of) w_bulk
    rw [w_form] at this
    exact this
  rw [hp1] at HP HPR
  clear hE hp1
  generalize wB.size + 1 = m at HP HPR
  unfold wB at HP HPR
  go_enter Tryz.func9, Tryz.ntmps9
  go_wp2_with fail
  refine HP.out.mono ?_
  rintro e w1 ⟨u, S, rfl, hL, hS, hk⟩
  have hE1 := HE.out.keep hk (by simp)
  obtain ⟨A, cap, rfl, _, hat⟩ := lies_open hL
  obtain ⟨b, o, cv, rfl, hb, hP, hC⟩ := hat 0 p rfl
  have hP' : PAt w1 b o p cv := by simpa using hP
  obtain ⟨Ac, cc, rfl⟩ := hC.formL
  rw [hp2] at hP'
  rw [List.length_singleton] at hL ⊢
  have hkA : Keep [] w1 (w1.alloc (.cells #[.int .i64 0, .int .i64 0] 36)) := (Keep.refl [] w1).alloc _
  have HPR2 := HPR S _ (w1.alloc (.cells #[.int .i64 0, .int .i64 0] 36)) (hE1.keep hkA (by simp)) (hL.keep hkA (by simp)) (fun x hx => by have := (hS x hx).2; simp; omega)
  have HB1 : Hid (Blk (w1.alloc (.cells #[.int .i64 0, .int .i64 0] 36)) w1.heap.size 36 #[.int .i64 0, .int .i64 0]) := Blk.new _ _ _
  have HP2 := Lib.hid (hP'.keep hkA hb)
  have HK2 := Lib.hid (hk.nil hkA)
  have hb2 : b < (w1.alloc (.cells #[.int .i64 0, .int .i64 0] 36)).heap.size := by simp; omega
  clear hat hP hP' hL hS hk hE1 hkA hC HPR
  go_wp2_with fail
  refine HPR2.out.mono ?_
  rintro e w2 ⟨rfl, hk2⟩
  have hx := HB1.out.keep hk2 (by simp)
  have x0 : w2.cell? ⟨w1.heap.size, 0, none⟩ = some (.int .i64 0) := hx.cell_eq rfl
  have x1 : w2.cell? ⟨w1.heap.size, 1, none⟩ = some (.int .i64 0) := hx.cell_eq rfl
  obtain ⟨a0, a1, a2, a3, a4, a5, a6⟩ := HP2.out.keep hk2 hb2
  have hbz : b < w2.heap.size := Nat.lt_of_lt_of_le hb2 hk2.size
  have HK3 := Lib.hid (HK2.out.nil hk2)
  clear hk2 hx
  go_wp2_with fail
  go_ret
  exact ⟨rfl, HK3.out⟩
end Go.Proofs.YtjldgcpmdcoejaaGreatDoor

namespace Go.Proofs.YtjldgcpmdcoejaaGreatDoor
open Go.RowKit

theorem dbl_ge : ∀ l : List UInt8, l.length ≤ (dbl l).length
  | [] => Nat.le_refl _
  | b :: l => by
    have := dbl_ge l
    have e : dbl (b :: l) = (if b = 39 then [39, 39] else [b]) ++ dbl l := List.flatMap_cons
    rw [e, List.length_append, List.length_cons]
    split <;> simp <;> omega
theorem dressL_ge (h : Bool) (l : List UInt8) : l.length ≤ (dressL h l).length := by
  unfold dressL
  split
  · generalize l.findIdx (specB h) = f
    generalize lastN (specB h) l = k
    have h1 := dbl_ge (l.take f)
    have h2 := dbl_ge ((l.take k).drop f)
    have h3 := dbl_ge (l.drop k)
    simp only [List.length_append, List.length_take, List.length_drop, List.length_cons, List.length_nil] at h1 h2 h3 ⊢
    omega
  · exact dbl_ge l
theorem noB_zero {t : ByteArray} (h : noB t = true) : t.size = 0 := of_decide_eq_true h
theorem noB_len (t : ByteArray) (X : List UInt8) : t.size ≤ (if noB t then [] else X ++ t.data.toList : List UInt8).length := by
  split
  · rename_i h
    rw [noB_zero h]
    exact Nat.zero_le _
  · rw [List.length_append]
    have : t.data.toList.length = t.size := by simp
    omega
theorem bulkC_write {K : List PT → Nat} {W : List PT → List UInt8} {R : List PT → Bool} {k : Int} (hI : ∀ m, R m = true → K m ≤ 2 * (W m).length) : ∀ (cs : List CT) (ks : List ByteArray) (b : Bool), caseR R k ks cs = true → bulkC K cs ≤ 2 * (caseW W b cs).length
  | [], _, _, _ => Nat.zero_le _
  | c :: cs, ks, b, h => by
    simp only [caseR, Bool.and_eq_true] at h
    have h1 := bulkC_write hI cs _ true h.2
    have h2 := hI c.2 h.1.2
    have h3 : c.1.data.toList.length = c.1.size := by simp
    simp only [bulkC, caseW, List.length_append, List.length_cons, List.length_nil]
    omega
theorem bulkP_write {K : List PT → Nat} {W : List PT → Bool → List UInt8} {R : List PT → Bool → Bool} (hI : ∀ m h, R m h = true → K m ≤ 2 * (W m h).length) (p : PT) (h : Bool) (hp : plainB p h = true) (hc : caseR (fun m => R m (decide (p.k ≠ 4))) p.k [] p.cs = true) :
    1 + p.tx.size + p.nm.size + p.ty.size + p.st.size + bulkC K p.cs ≤ 2 * (partW W h p).length := by
  have hn : p.nm.data.toList.length = p.nm.size := by simp
  unfold plainB at hp
  unfold partW
  by_cases h1 : p.k = 1
  · rw [if_pos h1] at hp ⊢
    simp only [Bool.and_eq_true, Bool.not_eq_true', decide_eq_true_iff] at hp
    obtain ⟨⟨⟨⟨⟨⟨a1, a2⟩, a3⟩, a4⟩, a5⟩, a6⟩, a7⟩ := hp
    have hd := dressL_ge h p.tx.data.toList
    have ht : p.tx.data.toList.length = p.tx.size := by simp
    have h0 : p.tx.size ≠ 0 := of_decide_eq_false a1
    rw [List.eq_nil_of_length_eq_zero a3, noB_zero a4, noB_zero a5, noB_zero a6]
    simp only [bulkC]
    omega
  · rw [if_neg h1] at hp ⊢
    by_cases h2 : p.k = 2
    · rw [if_pos h2] at hp ⊢
      simp only [Bool.and_eq_true, decide_eq_true_iff] at hp
      obtain ⟨⟨⟨⟨⟨⟨a1, a2⟩, a3⟩, a4⟩, a5⟩, a6⟩, a7⟩ := hp
      rw [List.eq_nil_of_length_eq_zero a2, noB_zero a3, noB_zero a4, noB_zero a5, noB_zero a6]
      simp [bulkC]
    · rw [if_neg h2] at hp ⊢
      by_cases h3 : p.k = 3
      · rw [if_pos h3] at hp ⊢
        simp only [Bool.and_eq_true, decide_eq_true_iff] at hp
        obtain ⟨⟨⟨⟨⟨a1, a2⟩, a3⟩, a4⟩, a5⟩, a6⟩ := hp
        rw [List.eq_nil_of_length_eq_zero a4, noB_zero a5]
        have e1 := noB_len p.ty [44, 32]
        have e2 := noB_len p.st [44, 32]
        simp only [bulkC, List.length_append, List.length_cons, List.length_nil] at e1 e2 ⊢
        omega
      · rw [if_neg h3] at hp ⊢
        by_cases h4 : p.k = 4 ∨ p.k = 5 ∨ p.k = 6
        · rw [if_pos h4] at hp ⊢
          simp only [Bool.and_eq_true] at hp
          obtain ⟨⟨⟨a1, a2⟩, a3⟩, a4⟩ := hp
          have hb := bulkC_write (W := fun m => W m (decide (p.k ≠ 4))) (fun m hm => hI m _ hm) p.cs [] false hc
          rw [noB_zero a2, noB_zero a3, noB_zero a4]
          simp only [List.length_append, List.length_cons, List.length_nil]
          omega
        · rw [if_neg h4] at hp
          cases hp
theorem bulkL_write {K : List PT → Nat} {W : List PT → Bool → List UInt8} {R : List PT → Bool → Bool} (hI : ∀ m h, R m h = true → K m ≤ 2 * (W m h).length) (h : Bool) : ∀ (l : List PT) (q : Int), rightL R h q l = true → bulkL K l ≤ 2 * (writeL W h l).length
  | [], _, _ => Nat.zero_le _
  | p :: l, q, hr => by
    simp only [rightL, Bool.and_eq_true] at hr
    have h1 := bulkL_write hI h l _ hr.2
    have h2 := bulkP_write hI p h hr.1.1.1.1 hr.1.1.2
    simp only [bulkL, writeL, List.length_append]
    omega
theorem right_bulk : ∀ (n : Nat) (l : List PT) (h : Bool), rightF n l h = true → bulkF n l ≤ 2 * (writeF n l h).length
  | 0, _, _, h => by cases h
  | n + 1, l, h, hr => bulkL_write (right_bulk n) h l 0 hr
end Go.Proofs.YtjldgcpmdcoejaaGreatDoor

namespace Go.Proofs.YtjldgcpmdcoejaaGreatDoor
open Go.RowKit

def GoodR {α : Type} (s : ByteArray) (p : Nat) : RR α → Prop
  | .out => False
  | .bad e _ => e ≠ 0
  | .ok _ q => p ≤ q ∧ q ≤ s.size
def GoodQ {α : Type} (s : ByteArray) (p : Nat) : RM α → Prop
  | .out => False
  | .bad e _ => e ≠ 0
  | .ok _ q _ => p ≤ q ∧ q ≤ s.size
section
variable {α β : Type} {s : ByteArray} {p q : Nat}
theorem GoodQ.mono {r : RM α} (h : GoodQ s q r) (hp : p ≤ q) : GoodQ s p r := by
  cases r with
  | out => exact h
  | bad e _ => exact h
  | ok a x n => exact ⟨Nat.le_trans hp h.1, h.2⟩
theorem GoodR.mono {r : RR α} (h : GoodR s q r) (hp : p ≤ q) : GoodR s p r := by
  cases r with
  | out => exact h
  | bad e _ => exact h
  | ok a x => exact ⟨Nat.le_trans hp h.1, h.2⟩
theorem GoodQ.bind {r : RM α} {k : α → Nat → Nat → RM β} (h : GoodQ s p r) (hk : ∀ a q n, r = .ok a q n → p ≤ q → q ≤ s.size → GoodQ s p (k a q n)) : GoodQ s p (r.then k) := by
  cases r with
  | out => exact h
  | bad e _ => exact h
  | ok a x n => exact hk a x n rfl h.1 h.2
theorem GoodR.bind {r : RR α} {k : α → Nat → RR β} (h : GoodR s p r) (hk : ∀ a q, r = .ok a q → p ≤ q → q ≤ s.size → GoodR s p (k a q)) : GoodR s p (r.then k) := by
  cases r with
  | out => exact h
  | bad e _ => exact h
  | ok a x => exact hk a x rfl h.1 h.2
theorem GoodR.bindM {r : RR α} {k : α → Nat → RM β} (h : GoodR s p r) (hk : ∀ a q, r = .ok a q → p ≤ q → q ≤ s.size → GoodQ s p (k a q)) : GoodQ s p (r.thenM k) := by
  cases r with
  | out => exact h
  | bad e _ => exact h
  | ok a x => exact hk a x rfl h.1 h.2
theorem signS_good {b : Int} (hb : 0 ≤ b) : GoodR s p (signS s b p) := by
  cases h : signS s b p with
  | out => exact absurd h (signS_out _ _ _)
  | bad e q =>
    unfold signS at h
    split at h
    · cases h
    · injection h with h _
      show e ≠ 0
      omega
  | ok a q => exact ⟨Nat.le_of_lt (signS_ge hb h).1, (signS_ge hb h).2⟩
theorem nameS_good : GoodR s p (nameS s p) := by
  cases h : nameS s p with
  | out => exact absurd h (nameS_out _ _)
  | bad e q =>
    unfold nameS at h
    split at h
    · split at h
      · injection h with h _
        show e ≠ 0
        omega
      · cases h
    · injection h with h _
      show e ≠ 0
      omega
  | ok a q => exact ⟨Nat.le_of_lt (nameS_ge h).1, (nameS_ge h).2⟩
theorem numS_good (hp : p ≤ s.size) : GoodR s p (numS s p) := by
  cases h : numS s p with
  | out => exact absurd h (numS_out _ _)
  | bad e q =>
    unfold numS at h
    split at h
    · cases h
    · injection h with h _
      show e ≠ 0
      omega
  | ok a q => exact numS_ge h hp
theorem styleS_good (hp : p ≤ s.size) : GoodR s p (styleS s p) := by
  cases h : styleS s p with
  | out => exact absurd h (styleS_out _ _)
  | bad e q =>
    unfold styleS at h
    split at h
    · injection h with h _
      show e ≠ 0
      omega
    · split at h
      · injection h with h _
        show e ≠ 0
        omega
      · cases h
  | ok a q => exact styleS_ge h hp
theorem quotF_good (o : Nat) : ∀ (f p : Nat) (acc : List UInt8), s.size - p < f → quotF s o f p acc ≠ .out ∧ ∀ e q, quotF s o f p acc = .bad e q → e ≠ 0
  | 0, _, _, h => absurd h (by omega)
  | f + 1, p, acc, h => by
    unfold quotF
    split
    · rename_i hp
      split
      · split
        · exact quotF_good o f (p + 2) _ (by omega)
        · exact ⟨by simp, fun e q h => by cases h⟩
      · exact quotF_good o f (p + 1) _ (by omega)
    · exact ⟨by simp, fun e q h => by injection h with h _; omega⟩
theorem quotS_good (hp : p < s.size) : GoodR s p (quotS s p) := by
  have hf := quotF_good (s := s) p (s.size + 1 - (p + 1)) (p + 1) [] (by omega)
  cases h : quotS s p with
  | out => exact absurd h hf.1
  | bad e q => exact hf.2 e q h
  | ok a q => exact ⟨Nat.le_of_lt (quotS_ge h).1, (quotS_ge h).2.1⟩
theorem putS_good {l : List PT} {t : ByteArray} {n : Nat} (hp : p ≤ s.size) : GoodQ s p (putS l t p n) := by
  have h3 : (3 : Int) ≠ 0 := by decide
  unfold putS
  split
  · split
    · exact ⟨Nat.le_refl _, hp⟩
    · split
      · exact h3
      · exact ⟨Nat.le_refl _, hp⟩
  · split
    · exact h3
    · exact ⟨Nat.le_refl _, hp⟩
theorem keyS_good {k : Int} : GoodR s p (keyS s k p) := by
  unfold keyS
  split
  · rename_i h
    have hlt : p < s.size := byt_lt (by omega)
    exact GoodR.bind ((numS_good (by omega)).mono (Nat.le_succ p)) fun a q _ h1 h2 => ⟨h1, h2⟩
  · refine GoodR.bind nameS_good fun a q _ h1 h2 => ?_
    split
    · show (290 : Int) ≠ 0
      decide
    · exact ⟨h1, h2⟩
theorem caseF_good {M : Nat → Nat → RM (List PT)} {k : Int} (b : Nat) (hM : ∀ q n, b < q → q ≤ s.size → GoodQ s q (M q n)) : ∀ (f : Nat) (cs : List CT) (p n : Nat), b ≤ p → p ≤ s.size → s.size - p < f → GoodQ s p (caseF s M k f cs p n)
  | 0, _, _, _, _, _, h => absurd h (by omega)
  | f + 1, cs, p, n, hb, hp, hf => by
    unfold caseF
    refine keyS_good.bindM fun key p1 hk1 h1 h2 => ?_
    have hk := keyS_ge hk1
    split
    · show (292 : Int) ≠ 0
      decide
    · refine GoodR.bindM ((signS_good (by decide)).mono h1) fun _ p2 hs2 h3 h4 => ?_
      have hs := signS_ge (by decide) hs2
      refine GoodQ.bind ((hM p2 n (by omega) h4).mono h3) fun l p3 n3 hm h5 h6 => ?_
      have hm3 := hM p2 n (by omega) h4
      rw [hm] at hm3
      have h7 : p2 ≤ p3 := hm3.1
      split
      · show (290 : Int) ≠ 0
        decide
      · rename_i hne
        have h8 := skip_ge s (p3 + 1)
        have h9 := skip_le s (p3 + 1) (by omega)
        split
        · exact ⟨by omega, h9⟩
        · exact (caseF_good b hM f _ _ n3 (by omega) h9 (by omega)).mono (by omega)
theorem offS_good {k : Int} (hp : p ≤ s.size) : GoodR s p (offS s k p) := by
  unfold offS
  split
  · rename_i h
    have h7 := prefix_len h.2
    have h8 := skip_ge s (p + 7)
    have h9 := skip_le s (p + 7) h7
    refine GoodR.bind ((numS_good h9).mono (by omega)) fun v e _ h1 h2 => ?_
    exact ⟨Nat.le_trans h1 (skip_ge _ _), skip_le _ _ h2⟩
  · exact ⟨Nat.le_refl _, hp⟩
theorem choiS_good {M : Nat → Nat → RM (List PT)} {k : Int} {f o n d : Nat} (b : Nat) (hM : ∀ q n, b < q → q ≤ s.size → GoodQ s q (M q n)) (hb : b ≤ p) (hp : p ≤ s.size) (hf : s.size - p < f) : GoodQ s p (choiS s M f k o p n d) := by
  unfold choiS
  split
  · show (3 : Int) ≠ 0
    decide
  · have h8 := skip_ge s p
    have h9 := skip_le s p hp
    refine GoodR.bindM ((offS_good h9).mono h8) fun off q ho h1 h2 => ?_
    refine GoodQ.bind ((caseF_good b hM f [] q n (by omega) h2 (by omega)).mono h1) fun cs q2 n2 _ h3 h4 => ?_
    split
    · exact ⟨h3, h4⟩
    · show (291 : Int) ≠ 0
      decide
set_option maxHeartbeats 4000000 in
theorem argS_good {M : Bool → Nat → Nat → RM (List PT)} {f n d : Nat} (hM : ∀ h q n, p < q → q ≤ s.size → GoodQ s q (M h q n)) (hp : p < s.size) (hf : s.size - p ≤ f) : GoodQ s (p + 1) (argS s M f p n d) := by
  have h290 : (290 : Int) ≠ 0 := by decide
  unfold argS
  refine GoodR.bindM nameS_good fun nm p1 hn1 h1 h2 => ?_
  have hk1 := skip_ge s p1
  have hk2 := skip_le s p1 h2
  generalize skip s p1 = k1 at *
  split
  · rename_i h125
    have hlt : k1 < s.size := byt_lt (by omega)
    exact ⟨by omega, by omega⟩
  · refine GoodR.bindM ((signS_good (by decide)).mono (by omega)) fun _ p2 hs2 h3 h4 => ?_
    have hs := signS_ge (by decide) hs2
    have hk3 := skip_ge s p2
    generalize skip s p2 = k2 at *
    refine GoodR.bindM ((nameS_good).mono (Nat.le_trans h3 hk3)) fun w p3 hn3 h5 h6 => ?_
    have hn := nameS_ge hn3
    split
    · exact h290
    · split
      · have hk4 := skip_ge s p3
        have hk5 := skip_le s p3 h6
        generalize skip s p3 = k3 at *
        split
        · rename_i h44
          have hlt : k3 < s.size := byt_lt (by omega)
          have hst : GoodR s (k3 + 1) (styleS s (k3 + 1)) := styleS_good hlt
          refine GoodR.bindM (hst.mono (by omega)) fun st p4 _ h7 h8 => ?_
          refine GoodR.bindM ((signS_good (by decide)).mono h7) fun _ p5 _ h9 h10 => ?_
          exact ⟨h9, h10⟩
        · refine GoodR.bindM ((signS_good (by decide)).mono (by omega)) fun _ p5 _ h9 h10 => ?_
          exact ⟨h9, h10⟩
      · refine GoodR.bindM ((signS_good (by decide)).mono h5) fun _ p4 hs4 h7 h8 => ?_
        have hs5 := signS_ge (by decide) hs4
        refine GoodQ.bind ((choiS_good p (hM _) (by omega) h8 (by omega)).mono h7) fun x p5 n5 _ h9 h10 => ?_
        refine GoodR.bindM ((signS_good (by decide)).mono h9) fun _ p6 _ h11 h12 => ?_
        exact ⟨h11, h12⟩
set_option maxHeartbeats 4000000 in
theorem msgF_good : ∀ (f d : Nat) (h : Bool) (l : List PT) (p n : Nat), p ≤ s.size → s.size - p < f → GoodQ s p (msgF s f d h l p n)
  | 0, _, _, _, _, _, _, h => absurd h (by omega)
  | f + 1, d, h, l, p, n, hp, hf => by
    have h3 : (3 : Int) ≠ 0 := by decide
    unfold msgF
    split
    · exact ⟨Nat.le_refl _, hp⟩
    · rename_i h0
      have hlt : p < s.size := by omega
      split
      · split
        · exact h3
        · exact (GoodQ.bind (argS_good (fun h' q n h1 h2 => msgF_good f (d + 1) h' [] q n h2 (by omega)) hlt (by omega)) fun a q n2 _ h1 h2 => (msgF_good f d h _ q n2 h2 (by omega)).mono h1).mono (Nat.le_succ p)
      · split
        · split
          · exact h3
          · exact (msgF_good f d h _ (p + 1) (n + 1) (by omega) (by omega)).mono (by omega)
        · split
          · rename_i h39
            have h2 : p + 1 < s.size := byt_lt (by omega)
            exact GoodQ.bind (putS_good hp) fun l2 _ n2 _ _ _ => (msgF_good f d h _ (p + 2) n2 (by omega) (by omega)).mono (by omega)
          · split
            · refine GoodR.bindM (quotS_good hlt) fun t q hq h1 h2 => ?_
              have hg := quotS_ge hq
              exact GoodQ.bind (putS_good hp) fun l2 _ n2 _ _ _ => (msgF_good f d h _ q n2 (by omega) (by omega)).mono (by omega)
            · exact GoodQ.bind (putS_good hp) fun l2 _ n2 _ _ _ => (msgF_good f d h _ (p + 1) n2 (by omega) (by omega)).mono (by omega)
end
theorem msgF_end_good (s : ByteArray) : GoodQ s 0 (msgF s (s.size + 1) 0 false [] 0 0) := msgF_good (s.size + 1) 0 false [] 0 0 (Nat.zero_le _) (by omega)
end Go.Proofs.YtjldgcpmdcoejaaGreatDoor

namespace Go.Proofs.YtjldgcpmdcoejaaGreatDoor
open Go.ChangeShapes Go.WideShapes Go.ChangeAt Go.RowKit

/-- The blocks that there are. -/
abbrev InW (w : World) : Nat → Prop := fun x => x < w.heap.size
theorem cellsPart : Tryz.prog.cellsOf 47 = 7 := by kernel_rfl
theorem cellsCase : Tryz.prog.cellsOf 51 = 2 := by kernel_rfl
theorem cellsInt : Tryz.prog.cellsOf 3 = 1 := by kernel_rfl
theorem cellsStr : Tryz.prog.cellsOf 9 = 1 := by kernel_rfl
theorem cellsParts : Tryz.prog.cellsOf 22 = 1 := by kernel_rfl
theorem cellsCases : Tryz.prog.cellsOf 45 = 1 := by kernel_rfl
section
variable {H : Type} {enc : TypeId × Value → H} {w : World} {base : Nat} {spare : Nat → Bool} {held : Bool}
theorem up_lit (k : IntKind) (z : Int) : Rows.uptoBulk (DataW.lit (H := H) (.int k z)) = 1 := by simp [Rows.uptoBulk]
theorem up_str (t : ByteArray) : Rows.uptoBulk (DataW.lit (H := H) (.string t.data.toList)) = t.size + 1 := by
  simp [Rows.uptoBulk]
theorem up_at : ∀ (l : List (DataW H)) (i : Nat) (d : DataW H), l[i]? = some d → Rows.uptoBulk d ≤ Rows.uptoBulkAll l
  | x :: r, 0, d, h => by simp at h; subst h; simp only [Rows.uptoBulkAll]; omega
  | x :: r, i + 1, d, h => by have := up_at r i d (by simpa using h); simp only [Rows.uptoBulkAll]; omega
theorem flatten_at {size : Nat} : ∀ (rows : List (List Value)) (_ : ∀ (i : Nat) r, rows[i]? = some r → r.length = size) (_ : 0 < size) (j : Nat) (u : Value), rows.flatten[j]? = some u →
    ∃ r, rows[j / size]? = some r ∧ r[j % size]? = some u
  | [], _, _, j, u, h => by simp at h
  | r :: rows, hr, hs, j, u, h => by
    have h0 := hr 0 r rfl
    rw [List.flatten_cons] at h
    by_cases hj : j < size
    · rw [List.getElem?_append_left (by omega)] at h
      exact ⟨r, by rw [Nat.div_eq_of_lt hj]; rfl, by rw [Nat.mod_eq_of_lt hj]; exact h⟩
    · rw [List.getElem?_append_right (by omega), h0] at h
      obtain ⟨r', h1, h2⟩ := flatten_at rows (fun i r h => hr (i + 1) r (by simpa using h)) hs (j - size) u h
      have e : j = (j - size) + size := by omega
      refine ⟨r', ?_, ?_⟩
      · rw [e, Nat.add_div_right _ hs]; simpa using h1
      · rw [e, Nat.add_mod_right]; exact h2
theorem open_rows {t e : TypeId} {fuel size : Nat} {c : Value} {x : DataW H × List MemPlace} (ht : Tryz.prog.underlying t = some (.slice e)) (he : Tryz.prog.cellsOf e = size) (hs : 0 < size)
    (h : DataW.trod enc Tryz.prog w base spare held fuel t [c] = some x) :
    ∃ (rows : List (List Value)) (ds : List (DataW H)) (m : Nat), ds.length = rows.length ∧ RdC (InW w) w c rows.length rows.flatten ∧ Rows.uptoBulkAll ds + 1 ≤ Rows.uptoBulk x.1 ∧
      ∀ (i : Nat) r d, rows[i]? = some r → ds[i]? = some d → r.length = size ∧ ∃ pl, DataW.trod enc Tryz.prog w base spare held m e r = some (d, pl) := by
  rcases Deep.open_slice ht h with ⟨hc, rfl⟩ | ⟨a, len, cap, m, n', D, Pl, hc, hb, hl, hm, hmm, rfl, hx⟩
  · simp at hc
    subst hc
    exact ⟨[], [], 0, rfl, RdC.nil _ w, by simp [Rows.uptoBulkAll, Rows.uptoBulk], fun i r d h => by simp at h⟩
  · simp at hc
    subst hc
    have hlm : len ≤ m := by rw [hmm]; split <;> omega
    rw [he] at hx
    have hx2 : ∀ i, i < len → ∃ r : List Value, r.length = size ∧ (∀ j, j < size → w.cell? (a.add (i * size + j)) = r[j]?) ∧ DataW.trod enc Tryz.prog w base spare held n' e r = some (D i, Pl i) := fun i hi => by
      obtain ⟨cs', h1, h2⟩ := hx i (by omega)
      obtain ⟨_, h4, h3⟩ := World.cells?_some h1
      exact ⟨cs', h4, fun j hj => by rw [← add_of_add]; exact h3 j hj, h2⟩
    have hI : Inhabited (List Value) := ⟨[]⟩
    obtain ⟨f, hf⟩ := Deep.choose_lt hx2
    have hrow : ∀ (i : Nat) r, ((List.range len).map f)[i]? = some r → i < len ∧ r = f i := fun i r h => by
      have hi : i < len := by have := (List.getElem?_eq_some_iff.1 h).1; simpa using this
      rw [List.getElem?_map, List.getElem?_range hi] at h
      exact ⟨hi, by simpa using h.symm⟩
    refine ⟨(List.range len).map f, (List.range len).map D, n', by simp, ⟨some a, cap, by simp, by simpa using hl, hm, fun hne => ?_⟩, ?_, fun i r d h1 h2 => ?_⟩
    · have hlen : 0 < len := by simpa using hne
      have h00 := (hf 0 hlen).2.1 0 hs
      obtain ⟨r0, hr0⟩ : ∃ u, (f 0)[0]? = some u := ⟨_, List.getElem?_eq_getElem (by rw [(hf 0 hlen).1]; exact hs)⟩
      have hsp : a.spot = none ∧ a.block < w.heap.size := by
        rw [show a.add (0 * size + 0) = a by simp [Addr.add], hr0] at h00
        have h01 := h00
        unfold World.cell? at h01
        split at h01
        · rename_i heq
          refine ⟨?_, (Array.getElem?_eq_some_iff.1 heq).1⟩
          cases hs : a.spot with
          | none => rfl
          | some _ => rw [hs] at h01; simp at h01
        · cases h01
      obtain ⟨b, o, sp⟩ := a
      obtain ⟨hs1, hs2⟩ := hsp
      simp only at hs1 hs2
      subst hs1
      refine ⟨b, o, rfl, hs2, hs2, fun j u hu => ?_⟩
      obtain ⟨r, h1, h2⟩ := flatten_at ((List.range len).map f) (size := size) (fun i r h => by obtain ⟨hi, rfl⟩ := hrow i r h; exact (hf i hi).1) hs j u hu
      obtain ⟨hi, rfl⟩ := hrow _ _ h1
      have := (hf (j / size) hi).2.1 (j % size) (Nat.mod_lt _ hs)
      rw [h2, show j / size * size + j % size = j by rw [Nat.mul_comm]; exact Nat.div_add_mod ..] at this
      rw [← this]
      unfold Addr.add
      split <;> simp_all
    · simp only [Rows.uptoBulk]; omega
    · obtain ⟨hi, rfl⟩ := hrow i r h1
      rw [List.getElem?_map, List.getElem?_range hi] at h2
      obtain rfl : D i = d := by simpa using h2
      exact ⟨(hf i hi).1, _, (hf i hi).2.2⟩
set_option maxRecDepth 100000 in
theorem open_part {n : Nat} {cs : List Value} {d : DataW H} {pl : List MemPlace} (h : DataW.trod enc Tryz.prog w base spare held n 47 cs = some (d, pl)) :
    ∃ (k : Int) (tx nm ty st : ByteArray) (off : Int) (cv : Value) (y : DataW H × List MemPlace) (m : Nat), cs = [.int .i64 k, .string tx, .string nm, .string ty, .string st, .int .i64 off, cv] ∧
      DataW.trod enc Tryz.prog w base spare held m 45 [cv] = some y ∧ 1 + tx.size + nm.size + ty.size + st.size + Rows.uptoBulk y.1 ≤ Rows.uptoBulk d := by
  obtain ⟨xs, m, rfl, hx, hl, hxl, hall⟩ := DataW.trod_struct Tryz.underlying47 h
  simp only [Prod.mk.injEq] at hx
  obtain ⟨rfl, _⟩ := hx
  rw [cellsPart] at hl
  match cs, hl with
  | [c0, c1, c2, c3, c4, c5, c6], _ =>
    have h0 : DataW.trod enc Tryz.prog w base spare held m 3 (([c0, c1, c2, c3, c4, c5, c6].drop 0).take (Tryz.prog.cellsOf 3)) = xs[0]? := hall 0 _ rfl
    have h1 : DataW.trod enc Tryz.prog w base spare held m 9 (([c0, c1, c2, c3, c4, c5, c6].drop 1).take (Tryz.prog.cellsOf 9)) = xs[1]? := hall 1 _ rfl
    have h2 : DataW.trod enc Tryz.prog w base spare held m 9 (([c0, c1, c2, c3, c4, c5, c6].drop 2).take (Tryz.prog.cellsOf 9)) = xs[2]? := hall 2 _ rfl
    have h3 : DataW.trod enc Tryz.prog w base spare held m 9 (([c0, c1, c2, c3, c4, c5, c6].drop 3).take (Tryz.prog.cellsOf 9)) = xs[3]? := hall 3 _ rfl
    have h4 : DataW.trod enc Tryz.prog w base spare held m 9 (([c0, c1, c2, c3, c4, c5, c6].drop 4).take (Tryz.prog.cellsOf 9)) = xs[4]? := hall 4 _ rfl
    have h5 : DataW.trod enc Tryz.prog w base spare held m 3 (([c0, c1, c2, c3, c4, c5, c6].drop 5).take (Tryz.prog.cellsOf 3)) = xs[5]? := hall 5 _ rfl
    have h6 : DataW.trod enc Tryz.prog w base spare held m 45 (([c0, c1, c2, c3, c4, c5, c6].drop 6).take (Tryz.prog.cellsOf 45)) = xs[6]? := hall 6 _ rfl
    rw [cellsInt] at h0 h5
    rw [cellsStr] at h1 h2 h3 h4
    rw [cellsCases] at h6
    match xs, hxl with
    | [y0, y1, y2, y3, y4, y5, y6], _ =>
      obtain ⟨k, e0, rfl, _⟩ := DataW.trod_int Tryz.underlying3 h0
      obtain ⟨t1, e1, rfl, _⟩ := DataW.trod_string Tryz.underlying9 h1
      obtain ⟨t2, e2, rfl, _⟩ := DataW.trod_string Tryz.underlying9 h2
      obtain ⟨t3, e3, rfl, _⟩ := DataW.trod_string Tryz.underlying9 h3
      obtain ⟨t4, e4, rfl, _⟩ := DataW.trod_string Tryz.underlying9 h4
      obtain ⟨z, e5, rfl, _⟩ := DataW.trod_int Tryz.underlying3 h5
      simp at e0 e1 e2 e3 e4 e5
      subst e0 e1 e2 e3 e4 e5
      refine ⟨k, t1, t2, t3, t4, z, c6, y6, m, rfl, by simpa using h6, ?_⟩
      simp only [List.map_cons, List.map_nil, Rows.uptoBulk.eq_def (.agg _), Rows.uptoBulkAll, up_str, up_lit]
      omega
set_option maxRecDepth 100000 in
theorem open_case {n : Nat} {cs : List Value} {d : DataW H} {pl : List MemPlace} (h : DataW.trod enc Tryz.prog w base spare held n 51 cs = some (d, pl)) :
    ∃ (key : ByteArray) (pv : Value) (y : DataW H × List MemPlace) (m : Nat), cs = [.string key, pv] ∧
      DataW.trod enc Tryz.prog w base spare held m 22 [pv] = some y ∧ 1 + key.size + Rows.uptoBulk y.1 ≤ Rows.uptoBulk d := by
  obtain ⟨xs, m, rfl, hx, hl, hxl, hall⟩ := DataW.trod_struct Tryz.underlying51 h
  simp only [Prod.mk.injEq] at hx
  obtain ⟨rfl, _⟩ := hx
  rw [cellsCase] at hl
  match cs, hl with
  | [c0, c1], _ =>
    have h0 : DataW.trod enc Tryz.prog w base spare held m 9 (([c0, c1].drop 0).take (Tryz.prog.cellsOf 9)) = xs[0]? := hall 0 _ rfl
    have h1 : DataW.trod enc Tryz.prog w base spare held m 22 (([c0, c1].drop 1).take (Tryz.prog.cellsOf 22)) = xs[1]? := hall 1 _ rfl
    rw [cellsStr] at h0
    rw [cellsParts] at h1
    match xs, hxl with
    | [y0, y1], _ =>
      obtain ⟨t0, e0, rfl, _⟩ := DataW.trod_string Tryz.underlying9 h0
      simp at e0
      subst e0
      refine ⟨t0, c1, y1, m, rfl, by simpa using h1, ?_⟩
      simp only [List.map_cons, List.map_nil, Rows.uptoBulk.eq_def (.agg _), Rows.uptoBulkAll, up_str]
      omega
theorem build_parts {N : Nat} {S : Nat → Prop} : ∀ (rows : List (List Value)) (ds : List (DataW H)), ds.length = rows.length →
    (∀ (i : Nat) r d, rows[i]? = some r → ds[i]? = some d → ∃ (p : PT) (cv : Value), r = p.cells cv ∧ LiesC N S w cv p.cs ∧ ∀ m, 1 + p.tx.size + p.nm.size + p.ty.size + p.st.size + bulkC (bulkF m) p.cs ≤ Rows.uptoBulk d) →
    ∃ (l : List PT) (vs : List Value), l.length = rows.length ∧ vs.length = l.length ∧ rows.flatten = partC l vs ∧ (∀ (i : Nat) (p : PT) (cv : Value), l[i]? = some p → vs[i]? = some cv → LiesC N S w cv p.cs) ∧ ∀ m, bulkL (bulkF m) l ≤ Rows.uptoBulkAll ds
  | [], [], _, _ => ⟨[], [], rfl, rfl, rfl, fun i p cv h => by simp at h, fun m => Nat.zero_le _⟩
  | r :: rows, d :: ds, hl, hq => by
    obtain ⟨p, cv, rfl, h1, h2⟩ := hq 0 r d rfl rfl
    obtain ⟨l, vs, g1, g2, g3, g4, g5⟩ := build_parts rows ds (by simpa using hl) fun i r d h h' => hq (i + 1) r d (by simpa using h) (by simpa using h')
    refine ⟨p :: l, cv :: vs, by simp [g1], by simp [g2], by rw [List.flatten_cons, g3]; rfl, fun i q u hi hu => ?_, fun m => ?_⟩
    · cases i with
      | zero => simp at hi hu; subst hi; subst hu; exact h1
      | succ i => exact g4 i q u (by simpa using hi) (by simpa using hu)
    · have := h2 m; have := g5 m
      simp only [bulkL, Rows.uptoBulkAll]; omega
theorem build_cases {N : Nat} {S : Nat → Prop} : ∀ (rows : List (List Value)) (ds : List (DataW H)), ds.length = rows.length →
    (∀ (i : Nat) r d, rows[i]? = some r → ds[i]? = some d → ∃ (c : CT) (pv : Value), r = [.string c.1, pv] ∧ Lies N S w pv c.2 ∧ ∀ m, 1 + c.1.size + bulkF m c.2 ≤ Rows.uptoBulk d) →
    ∃ (l : List CT) (us : List Value), l.length = rows.length ∧ us.length = l.length ∧ rows.flatten = caseC l us ∧ (∀ (i : Nat) (c : CT) (pv : Value), l[i]? = some c → us[i]? = some pv → Lies N S w pv c.2) ∧ ∀ m, bulkC (bulkF m) l ≤ Rows.uptoBulkAll ds
  | [], [], _, _ => ⟨[], [], rfl, rfl, rfl, fun i p cv h => by simp at h, fun m => Nat.zero_le _⟩
  | r :: rows, d :: ds, hl, hq => by
    obtain ⟨c, pv, rfl, h1, h2⟩ := hq 0 r d rfl rfl
    obtain ⟨l, us, g1, g2, g3, g4, g5⟩ := build_cases rows ds (by simpa using hl) fun i r d h h' => hq (i + 1) r d (by simpa using h) (by simpa using h')
    refine ⟨c :: l, pv :: us, by simp [g1], by simp [g2], by rw [List.flatten_cons, g3]; rfl, fun i q u hi hu => ?_, fun m => ?_⟩
    · cases i with
      | zero => simp at hi hu; subst hi; subst hu; exact h1
      | succ i => exact g4 i q u (by simpa using hi) (by simpa using hu)
    · have := h2 m; have := g5 m
      simp only [bulkC, Rows.uptoBulkAll]; omega
/-- Parts, opened: how they lie, and how much there is in them. -/
theorem open_parts : ∀ (N fuel : Nat) (c : Value) (x : DataW H × List MemPlace), DataW.trod enc Tryz.prog w base spare held fuel 22 [c] = some x → Rows.uptoBulk x.1 ≤ N →
    ∃ l, Lies (N + 1) (InW w) w c l ∧ ∀ m, bulkF m l ≤ Rows.uptoBulk x.1
  | N, fuel, c, x, h, hN => by
    obtain ⟨rows, ds, m, hlen, hr, hb, hall⟩ := open_rows Tryz.underlying22 cellsPart (by omega) h
    cases N with
    | zero => omega
    | succ N =>
      obtain ⟨l, vs, g1, g2, g3, g4, g5⟩ := build_parts (w := w) (N := N + 1) (S := InW w) rows ds hlen fun i r d h1 h2 => by
        obtain ⟨_, pl, h3⟩ := hall i r d h1 h2
        obtain ⟨k, tx, nm, ty, st, off, cv, y, m', rfl, h4, h5⟩ := open_part h3
        have hd := up_at ds i d h2
        obtain ⟨rows', ds', m'', hlen', hr', hb', hall'⟩ := open_rows Tryz.underlying45 cellsCase (by omega) h4
        obtain ⟨cs, us, f1, f2, f3, f4, f5⟩ := build_cases (w := w) (N := N + 1) (S := InW w) rows' ds' hlen' fun i' r' d' h1' h2' => by
          obtain ⟨_, pl', h3'⟩ := hall' i' r' d' h1' h2'
          obtain ⟨key, pv, y', m3, rfl, h4', h5'⟩ := open_case h3'
          have hd' := up_at ds' i' d' h2'
          obtain ⟨l', hl', hl2⟩ := open_parts N m3 pv y' h4' (by omega)
          exact ⟨(key, l'), pv, rfl, hl', fun m => by have := hl2 m; simp only; omega⟩
        refine ⟨⟨k, tx, nm, ty, st, off, cs⟩, cv, rfl, ⟨us, f2, ?_, f4⟩, fun m => by have := f5 m; simp only; omega⟩
        show RdC (InW w) w cv cs.length (caseC cs us)
        rw [f1, ← f3]
        exact hr'
      refine ⟨l, ⟨vs, g2, ?_, g4⟩, fun m => ?_⟩
      · rw [g1, ← g3]; exact hr
      · cases m with
        | zero => exact Nat.zero_le _
        | succ m => have := g5 m; simp only [bulkF]; omega
end
end Go.Proofs.YtjldgcpmdcoejaaGreatDoor

namespace Go.Proofs.YtjldgcpmdcoejaaGreatDoor
open Go.RowKit

/-- A text is read as parts. -/
def ReadsAs (t : ByteArray) (m : List PT) : Prop := t.size ≤ 4096 ∧ brk t < 0 ∧ ∃ c, msgF t (t.size + 1) 0 false [] 0 0 = .ok m t.size c
theorem reads_right {t : ByteArray} {m : List PT} {J : Nat} (h : ReadsAs t m) (hJ : 4098 ≤ J) : rightF J m false = true ∧ sizeF J m ≤ 1024 ∧ depthF J m ≤ 8 ∧ (writeF J m false).length ≤ 4 * t.size ∧ bulkF J m ≤ 100000 := by
  obtain ⟨h1, h2, c, h3⟩ := h
  obtain ⟨k, rfl⟩ : ∃ k, J = k + 1 := ⟨J - 1, by omega⟩
  obtain ⟨g1, g2, g3, g4, _⟩ := parse_right h2 (k := k) (by omega) h3
  have := right_bulk (k + 1) m false g1
  exact ⟨g1, g2, g3, g4, by omega⟩
theorem reads_form {m : List PT} {J : Nat} (hr : rightF J m false = true) (h : (formF J m).2 = 0) : ReadsAs ⟨(formF J m).1.toArray⟩ m := by
  unfold formF at h ⊢
  rw [hr] at h ⊢
  rw [if_neg (by decide)] at h ⊢
  by_cases hc : 1024 < sizeF J m ∨ 8 < depthF J m ∨ 4096 < (writeF J m false).length
  · rw [if_pos hc] at h
    cases h
  · rw [if_neg hc]
    have hT : (⟨(writeF J m false).toArray⟩ : ByteArray).data.toList = writeF J m false := by simp
    refine ⟨?_, ?_, sizeF J m, print_parse J m _ hr (by omega) (by omega) hT⟩
    · rw [← size_len, hT]
      omega
    · have := ok_brk (write_ok J m false hr) ⟨(writeF J m false).toArray⟩ 0 (by rw [List.drop_zero, hT])
      show brkAt ⟨(writeF J m false).toArray⟩ 0 < 0
      rw [this]
      decide
theorem form_right {m : List PT} {J : Nat} (h : (formF J m).2 = 0) : rightF J m false = true := by
  cases hr : rightF J m false
  · unfold formF at h; rw [if_pos hr] at h; cases h
  · rfl
theorem form_long {t : ByteArray} {m : List PT} {J : Nat} (h : ReadsAs t m) (hJ : 4098 ≤ J) : (formF J m).2 = 0 ∨ (formF J m = ([], 3) ∧ 1000 < t.size) := by
  obtain ⟨g1, g2, g3, g4, _⟩ := reads_right h hJ
  unfold formF
  rw [g1, if_neg (by decide)]
  split
  · rename_i hc
    exact .inr ⟨rfl, by omega⟩
  · exact .inl rfl
theorem reads_calls {B : Nat} {t : ByteArray} {m : List PT} {J : Nat} (h : ReadsAs t m) (hJ : 4098 ≤ J) (W : World) (hE : EnvM B W) :
    Calls Tryz.prog 18 #[.string t] W fun x w' => ∃ A cap S, x = .returned (.tuple #[.slice A m.length cap, .agg #[.int .i64 0, .int .i64 0]]) ∧ Lies J S w' (.slice A m.length cap) m ∧ (∀ b, S b → b < w'.heap.size) ∧ Keep [] W w' := by
  obtain ⟨h1, h2, c, h3⟩ := h
  refine (parse_ok t W hE h1 h2 m c h3).mono ?_
  rintro x w' ⟨u, S, rfl, hL, hS, hk⟩
  obtain ⟨A, cap, rfl, _⟩ := lies_open hL
  exact ⟨A, cap, S, rfl, hL.le (by omega), fun b hb => (hS b hb).2, hk⟩
/-- A text is read, or it is refused. -/
theorem parse_either (s : ByteArray) : (∃ m, ReadsAs s m) ∨ ∃ (e q : Int), e ≠ 0 ∧ ∀ (B : Nat) (W : World), EnvM B W →
    Calls Tryz.prog 18 #[.string s] W fun x w' => x = .returned (.tuple #[.slice none 0 0, .agg #[.int .i64 e, .int .i64 q]]) ∧ Keep [] W w' := by
  by_cases h1 : 4096 < s.size
  · exact .inr ⟨3, 0, by decide, fun B W hE => parse_early s W hE 3 0 (.inl ⟨h1, rfl, rfl⟩)⟩
  · by_cases h2 : brk s < 0
    · have hg := msgF_end_good s
      cases hm : msgF s (s.size + 1) 0 false [] 0 0 with
      | out => rw [hm] at hg; exact hg.elim
      | bad e q =>
        rw [hm] at hg
        exact .inr ⟨e, q, hg, fun B W hE => parse_fail s W hE (by omega) h2 e q (.inl hm)⟩
      | ok l q n =>
        rw [hm] at hg
        have hq : q ≤ s.size := hg.2
        by_cases he : q = s.size
        · subst he
          exact .inl ⟨l, by omega, h2, n, hm⟩
        · exact .inr ⟨290, q, by decide, fun B W hE => parse_fail s W hE (by omega) h2 290 q (.inr ⟨l, n, hm, by omega, rfl⟩)⟩
    · exact .inr ⟨6, brk s, by decide, fun B W hE => parse_early s W hE 6 (brk s) (.inr ⟨by omega, h2, rfl, rfl⟩)⟩
theorem same_lies (J : Nat) (m : List PT) (S T : Nat → Prop) (u v : Value) (W : World) (hu : Lies J S W u m) (hv : Lies J T W v m) (hb : bulkF J m ≤ 1000000000) :
    Calls Tryz.prog 19 #[u, v] W fun e w' => e = .returned (.bool true) ∧ Keep [] W w' := by
  have := same_any J m m S T u v W hu hv hb hb
  rw [same_refl] at this
  exact this

theorem setCell_idle {w : World} {g i : Nat} {t : TypeId} {cs : Array Value} {v : Value} (h : Blk w g t cs) (hv : cs[i]? = some v) : w.setCell ⟨g, i, none⟩ v = w := by
  have e : (w.setCell ⟨g, i, none⟩ v).heap = w.heap := by
    apply Array.ext_getElem?
    intro k
    by_cases hk : k = g
    · subst hk
      have hc : cs.setIfInBounds i v = cs := by
        apply Array.ext_getElem?
        intro j
        rw [Array.getElem?_setIfInBounds]
        split
        · rename_i hj
          subst hj
          split
          · exact hv.symm
          · rename_i hn
            rw [Array.getElem?_eq_none (by omega)]
        · rfl
      have h1 := heap_setCell_same w k i cs t v h
      rw [hc] at h1
      exact h1.trans h.symm
    · exact heap_setCell_other w ⟨g, i, none⟩ k v hk
  cases w
  simp only [World.setCell] at e ⊢
  rw [e]
/-- What the first half of the law asks. -/
def First (w : World) (J : Nat) (l : List PT) (v : Value) : Prop :=
  (∃ t, (∀ W, Keep [] w W → Calls Tryz.prog 11 #[v] W fun x w' => x = .returned (.tuple #[.string t, .int .i64 0]) ∧ Keep [] W w') ∧
    (∀ W, Keep [] w W → Calls Tryz.prog 18 #[.string t] W fun x w' => ∃ A cap S, x = .returned (.tuple #[.slice A l.length cap, .agg #[.int .i64 0, .int .i64 0]]) ∧ Lies J S w' (.slice A l.length cap) l ∧ (∀ b, S b → b < w'.heap.size) ∧ Keep [] W w') ∧
    ∀ W W0 A cap S, Keep [] w W → Keep [] W0 W → Lies J S W0 (.slice A l.length cap) l → Calls Tryz.prog 19 #[.slice A l.length cap, v] W fun x w' => x = .returned (.bool true) ∧ Keep [] W w') ∨
  ∃ t e, e ≠ 0 ∧ ∀ W, Keep [] w W → Calls Tryz.prog 11 #[v] W fun x w' => x = .returned (.tuple #[.string t, .int .i64 e]) ∧ Keep [] W w'
/-- What the second half asks. -/
def Second (w : World) (J : Nat) (s : ByteArray) : Prop :=
  (∃ e q : Int, e ≠ 0 ∧ ∀ W, Keep [] w W → Calls Tryz.prog 18 #[.string s] W fun x w' => x = .returned (.tuple #[.slice none 0 0, .agg #[.int .i64 e, .int .i64 q]]) ∧ Keep [] W w') ∨
  ∃ (m : List PT) (t : ByteArray) (e : Int), ((e = 3 ∧ 1000 < s.size) ∨ e = 0) ∧
    (∀ W, Keep [] w W → Calls Tryz.prog 18 #[.string s] W fun x w' => ∃ A cap S, x = .returned (.tuple #[.slice A m.length cap, .agg #[.int .i64 0, .int .i64 0]]) ∧ Lies J S w' (.slice A m.length cap) m ∧ (∀ b, S b → b < w'.heap.size) ∧ Keep [] W w') ∧
    (∀ W W0 A cap S, Keep [] w W → Keep [] W0 W → Lies J S W0 (.slice A m.length cap) m → (∀ b, S b → b < W0.heap.size) → Calls Tryz.prog 11 #[.slice A m.length cap] W fun x w' => x = .returned (.tuple #[.string t, .int .i64 e]) ∧ Keep [] W w') ∧
    (e = 0 → (∀ W, Keep [] w W → Calls Tryz.prog 18 #[.string t] W fun x w' => ∃ A cap S, x = .returned (.tuple #[.slice A m.length cap, .agg #[.int .i64 0, .int .i64 0]]) ∧ Lies J S w' (.slice A m.length cap) m ∧ (∀ b, S b → b < w'.heap.size) ∧ Keep [] W w') ∧
      ∀ W W0 A cap S W1 A' cap' S', Keep [] w W → Keep [] W0 W → Keep [] W1 W → Lies J S W0 (.slice A m.length cap) m → Lies J S' W1 (.slice A' m.length cap') m → Calls Tryz.prog 19 #[.slice A m.length cap, .slice A' m.length cap'] W fun x w' => x = .returned (.bool true) ∧ Keep [] W w')
theorem first_any {B n J : Nat} {l : List PT} {S : Nat → Prop} {v : Value} {w : World} (hE : EnvM B w) (hh : Lies n S w v l) (hS : ∀ x, S x → x < w.heap.size) (hb : bulkF n l ≤ 10000000) (hJ : 4098 ≤ J) (hn : n ≤ J) : First w J l v := by
  have hp := fun W (hW : Keep [] w W) => print_all n l S v B W (hE.keep hW (by simp)) (hh.keep hW (by simp)) (fun x hx => Nat.lt_of_lt_of_le (hS x hx) hW.size) (by omega)
  by_cases h : (formF n l).2 = 0
  · have hr := reads_form (form_right h) h
    refine .inl ⟨_, fun W hW => ?_, fun W hW => reads_calls hr hJ W (hE.keep hW (by simp)), fun W W0 A cap T hW h0 hL => same_lies J l T S _ _ W (hL.keep h0 (by simp)) ((hh.keep hW (by simp)).le hn) ?_⟩
    · have := hp W hW
      unfold formV at this
      rw [h] at this
      exact this
    · have := (reads_right hr hJ).2.2.2.2
      omega
  · exact .inr ⟨_, _, h, hp⟩
theorem second_any {B J : Nat} {s : ByteArray} {w : World} (hE : EnvM B w) (hJ : 4098 ≤ J) : Second w J s := by
  rcases parse_either s with ⟨m, hr⟩ | ⟨e, q, he, hp⟩
  · have hg := reads_right hr hJ
    refine .inr ⟨m, ⟨(formF J m).1.toArray⟩, (formF J m).2, ?_, fun W hW => reads_calls hr hJ W (hE.keep hW (by simp)), fun W W0 A cap S hW h0 hL hS => print_all J m S _ B W (hE.keep hW (by simp)) (hL.keep h0 (by simp)) (fun x hx => Nat.lt_of_lt_of_le (hS x hx) h0.size) (by omega), fun h => ⟨fun W hW => reads_calls (reads_form hg.1 h) hJ W (hE.keep hW (by simp)), fun W W0 A cap S W1 A' cap' S' hW h0 h1 hL hL' => same_lies J m S S' _ _ W (hL.keep h0 (by simp)) (hL'.keep h1 (by simp)) (by omega)⟩⟩
    rcases form_long hr hJ with h | ⟨h, h2⟩
    · exact .inr h
    · exact .inl ⟨by rw [h], h2⟩
  · exact .inl ⟨e, q, he, fun W hW => hp B W (hE.keep hW (by simp))⟩

set_option maxRecDepth 100000 in
set_option maxHeartbeats 8000000 in
/-- The law, walked. -/
theorem law_back (n : Nat) (s : ByteArray) (l : List PT) (S : Nat → Prop) (v : Value) (B : Nat) (w : World) (hE : EnvM B w) (hh : Lies n S w v l) (hS : ∀ x, S x → x < w.heap.size) (hb : bulkF n l ≤ 10000000) (hs : s.size ≤ 9223372036854775000) :
    Calls Tryz.prog 5 #[.string s, v] w fun e w' => e = .returned (.bool true) ∧ Keep [] w w' := by
  obtain ⟨A, m, cap, rfl⟩ := hh.form
  have HW := Lib.hid (wakes_any w hE)
  have HSM : ∀ W, Keep [] w W → Hid (Calls Tryz.prog 10 #[.slice A m cap, .int .i64 0] W fun e w' => BoolRet e ∧ Keep [] W w') := fun W hW => small_any n l 0 S _ W (hh.keep hW (by simp)) (by omega) (by omega) (by omega)
  obtain ⟨J, hJ, hn⟩ : ∃ J, 4098 ≤ J ∧ n ≤ J := ⟨n + 4098, by omega, by omega⟩
  have F1 := first_any hE hh hS hb hJ hn
  have F2 := second_any (s := s) hE hJ
  clear hE hh hS hb hJ hn
  rcases F1 with ⟨t1, hp1, hq1, hs1⟩ | ⟨t1, e1, he1, hp1⟩
  · have HP1 : ∀ W, Keep [] w W → Hid _ := fun W hW => Lib.hid (hp1 W hW)
    have HQ1 : ∀ W, Keep [] w W → Hid _ := fun W hW => Lib.hid (hq1 W hW)
    have HS1 := Lib.hid hs1
    clear hp1 hq1 hs1
    rcases F2 with ⟨e, q, he, hp⟩ | ⟨pm, t2, e2, he2, hp, hpr, h0⟩
    · have HP2 : ∀ W, Keep [] w W → Hid _ := fun W hW => Lib.hid (hp W hW)
      have z1 : (e == 0) = false := by simpa using he
      have z2 : (e != 0) = true := by simpa using he
      clear hp he
      go_enter Tryz.func5, Tryz.ntmps5
      go_wp2_with (first
        | (go_at_call 9; refine HW.out.mono ?_; rintro x w1 ⟨rfl, hk1⟩; have HK := Lib.hid hk1; clear hk1)
        | (go_at_call 10; refine (HSM _ HK.out).out.mono ?_; rintro x w2 ⟨⟨b, rfl⟩, hk2⟩; have HK := Lib.hid (HK.out.nil hk2); clear hk2; cases b)
        | (go_at_call_of 11 (Value.slice A m cap); refine (HP1 _ HK.out).out.mono ?_; rintro x w3 ⟨rfl, hk3⟩; have HK := Lib.hid (HK.out.nil hk3); clear hk3)
        | (go_at_call_of 18 (Value.string t1); refine (HQ1 _ HK.out).out.mono ?_; rintro x w4 ⟨A1, c1, S1, rfl, hL1, hS1, hk4⟩; have HL1 := Lib.hid hL1; have HK := Lib.hid (HK.out.nil hk4); clear hk4 hL1 hS1)
        | (go_at_call_of 19 (Value.slice A m cap); refine (HS1.out _ _ A1 c1 S1 (by first | exact HK.out | exact HK.out.alloc _ | exact (HK.out.alloc _).alloc _) (by first | exact Keep.refl _ _ | exact (Keep.refl [] _).alloc _ | exact ((Keep.refl [] _).alloc _).alloc _) HL1.out).mono ?_; rintro x w5 ⟨rfl, hk5⟩; have HK : Hid (Keep [] w _) := (by first | exact HK.out.nil hk5 | exact (HK.out.alloc _).nil hk5 | exact ((HK.out.alloc _).alloc _).nil hk5); clear hk5)
        | (go_at_call_of 18 (Value.string s); refine (HP2 _ (by first | exact HK.out | exact HK.out.alloc _ | exact (HK.out.alloc _).alloc _)).out.mono ?_; rintro x w6 ⟨rfl, hk6⟩; have HK : Hid (Keep [] w _) := (by first | exact HK.out.nil hk6 | exact (HK.out.alloc _).nil hk6 | exact ((HK.out.alloc _).alloc _).nil hk6); clear hk6))
      all_goals
        go_ret
        exact ⟨rfl, by first | exact HK.out | exact HK.out.alloc _⟩
    · have HP2 : ∀ W, Keep [] w W → Hid _ := fun W hW => Lib.hid (hp W hW)
      have HR2 := Lib.hid hpr
      clear hp hpr
      rcases he2 with ⟨rfl, hlen⟩ | rfl
      · have hl : (1000 : Int) < s.size := by omega
        clear h0 hlen
        go_enter Tryz.func5, Tryz.ntmps5
        go_wp2_with (first
          | (go_at_call 9; refine HW.out.mono ?_; rintro x w1 ⟨rfl, hk1⟩; have HK := Lib.hid hk1; clear hk1)
          | (go_at_call 10; refine (HSM _ HK.out).out.mono ?_; rintro x w2 ⟨⟨b, rfl⟩, hk2⟩; have HK := Lib.hid (HK.out.nil hk2); clear hk2; cases b)
          | (go_at_call_of 11 (Value.slice A m cap); refine (HP1 _ HK.out).out.mono ?_; rintro x w3 ⟨rfl, hk3⟩; have HK := Lib.hid (HK.out.nil hk3); clear hk3)
          | (go_at_call_of 18 (Value.string t1); refine (HQ1 _ HK.out).out.mono ?_; rintro x w4 ⟨A1, c1, S1, rfl, hL1, hS1, hk4⟩; have HL1 := Lib.hid hL1; have HK := Lib.hid (HK.out.nil hk4); clear hk4 hL1 hS1)
          | (go_at_call_of 19 (Value.slice A m cap); refine (HS1.out _ _ A1 c1 S1 (by first | exact HK.out | exact HK.out.alloc _ | exact (HK.out.alloc _).alloc _) (by first | exact Keep.refl _ _ | exact (Keep.refl [] _).alloc _ | exact ((Keep.refl [] _).alloc _).alloc _) HL1.out).mono ?_; rintro x w5 ⟨rfl, hk5⟩; have HK : Hid (Keep [] w _) := (by first | exact HK.out.nil hk5 | exact (HK.out.alloc _).nil hk5 | exact ((HK.out.alloc _).alloc _).nil hk5); clear hk5)
          | (go_at_call_of 18 (Value.string s); refine (HP2 _ (by first | exact HK.out | exact HK.out.alloc _ | exact (HK.out.alloc _).alloc _)).out.mono ?_; rintro x w6 ⟨A2, c2, S2, rfl, hL2, hS2, hk6⟩; have HL2 := Lib.hid hL2; have HS2 := Lib.hid hS2; have HK : Hid (Keep [] w _) := (by first | exact HK.out.nil hk6 | exact (HK.out.alloc _).nil hk6 | exact ((HK.out.alloc _).alloc _).nil hk6); clear hk6; clear hL2 hS2)
          | (go_at_call 11; refine (HR2.out _ _ A2 c2 S2 (by first | exact HK.out | exact HK.out.alloc _ | exact (HK.out.alloc _).alloc _) (by first | exact Keep.refl _ _ | exact (Keep.refl [] _).alloc _ | exact ((Keep.refl [] _).alloc _).alloc _) HL2.out HS2.out).mono ?_; rintro x w7 ⟨rfl, hk7⟩; have HB7 : Hid (Blk w7 w6.heap.size 36 #[.int .i64 0, .int .i64 0]) := (Blk.new w6 36 #[.int .i64 0, .int .i64 0]).keep hk7 (by simp); have HL2 : Hid (Lies J S2 w7 (.slice A2 pm.length c2) pm) := HL2.out.keep (bs := []) (by first | exact hk7 | exact ((Keep.refl [] _).alloc _).nil hk7) (fun x hx => absurd hx List.not_mem_nil); have HK : Hid (Keep [] w _) := (by first | exact HK.out.nil hk7 | exact (HK.out.alloc _).nil hk7 | exact ((HK.out.alloc _).alloc _).nil hk7); clear hk7))
        all_goals
          go_ret
          exact ⟨rfl, by first | exact HK.out | exact HK.out.alloc _⟩
      · obtain ⟨hp3, hs3⟩ := h0 rfl
        have HP3 : ∀ W, Keep [] w W → Hid _ := fun W hW => Lib.hid (hp3 W hW)
        have HS3 := Lib.hid hs3
        clear hp3 hs3 h0
        go_enter Tryz.func5, Tryz.ntmps5
        go_wp2_with (first
          | (go_at_call 9; refine HW.out.mono ?_; rintro x w1 ⟨rfl, hk1⟩; have HK := Lib.hid hk1; clear hk1)
          | (go_at_call 10; refine (HSM _ HK.out).out.mono ?_; rintro x w2 ⟨⟨b, rfl⟩, hk2⟩; have HK := Lib.hid (HK.out.nil hk2); clear hk2; cases b)
          | (go_at_call_of 11 (Value.slice A m cap); refine (HP1 _ HK.out).out.mono ?_; rintro x w3 ⟨rfl, hk3⟩; have HK := Lib.hid (HK.out.nil hk3); clear hk3)
          | (go_at_call_of 18 (Value.string t1); refine (HQ1 _ HK.out).out.mono ?_; rintro x w4 ⟨A1, c1, S1, rfl, hL1, hS1, hk4⟩; have HL1 := Lib.hid hL1; have HK := Lib.hid (HK.out.nil hk4); clear hk4 hL1 hS1)
          | (go_at_call_of 19 (Value.slice A m cap); refine (HS1.out _ _ A1 c1 S1 (by first | exact HK.out | exact HK.out.alloc _ | exact (HK.out.alloc _).alloc _) (by first | exact Keep.refl _ _ | exact (Keep.refl [] _).alloc _ | exact ((Keep.refl [] _).alloc _).alloc _) HL1.out).mono ?_; rintro x w5 ⟨rfl, hk5⟩; have HK : Hid (Keep [] w _) := (by first | exact HK.out.nil hk5 | exact (HK.out.alloc _).nil hk5 | exact ((HK.out.alloc _).alloc _).nil hk5); clear hk5)
          | (go_at_call_of 18 (Value.string s); refine (HP2 _ (by first | exact HK.out | exact HK.out.alloc _ | exact (HK.out.alloc _).alloc _)).out.mono ?_; rintro x w6 ⟨A2, c2, S2, rfl, hL2, hS2, hk6⟩; have HL2 := Lib.hid hL2; have HS2 := Lib.hid hS2; have HK : Hid (Keep [] w _) := (by first | exact HK.out.nil hk6 | exact (HK.out.alloc _).nil hk6 | exact ((HK.out.alloc _).alloc _).nil hk6); clear hk6; clear hL2 hS2)
          | (go_at_call 11; refine (HR2.out _ _ A2 c2 S2 (by first | exact HK.out | exact HK.out.alloc _ | exact (HK.out.alloc _).alloc _) (by first | exact Keep.refl _ _ | exact (Keep.refl [] _).alloc _ | exact ((Keep.refl [] _).alloc _).alloc _) HL2.out HS2.out).mono ?_; rintro x w7 ⟨rfl, hk7⟩; have HB7 : Hid (Blk w7 w6.heap.size 36 #[.int .i64 0, .int .i64 0]) := (Blk.new w6 36 #[.int .i64 0, .int .i64 0]).keep hk7 (by simp); have HL2 : Hid (Lies J S2 w7 (.slice A2 pm.length c2) pm) := HL2.out.keep (bs := []) (by first | exact hk7 | exact ((Keep.refl [] _).alloc _).nil hk7) (fun x hx => absurd hx List.not_mem_nil); have HK : Hid (Keep [] w _) := (by first | exact HK.out.nil hk7 | exact (HK.out.alloc _).nil hk7 | exact ((HK.out.alloc _).alloc _).nil hk7); clear hk7)
          | (go_at_call_of 18 (Value.string t2); refine (HP3 _ (by first | exact HK.out | exact HK.out.alloc _ | exact (HK.out.alloc _).alloc _)).out.mono ?_; rintro x w8 ⟨A3, c3, S3, rfl, hL3, hS3, hk8⟩; have HL3 := Lib.hid hL3; have hB8 := HB7.out.keep hk8 (by simp); have k0 : w8.cell? ⟨w6.heap.size, 0, none⟩ = some (.int .i64 0) := hB8.cell_eq rfl; have k1 : w8.cell? ⟨w6.heap.size, 1, none⟩ = some (.int .i64 0) := hB8.cell_eq rfl; have z0 := hB8.frozen 0; have z1 := hB8.frozen 1; have i0 : w8.setCell ⟨w6.heap.size, 0, none⟩ (.int .i64 0) = w8 := setCell_idle hB8 rfl; have i1 : w8.setCell ⟨w6.heap.size, 1, none⟩ (.int .i64 0) = w8 := setCell_idle hB8 rfl; clear hB8; have HL2 : Hid (Lies J S2 w8 (.slice A2 pm.length c2) pm) := HL2.out.keep (bs := []) (by first | exact hk8 | exact ((Keep.refl [] _).alloc _).nil hk8) (fun x hx => absurd hx List.not_mem_nil); have HK : Hid (Keep [] w _) := (by first | exact HK.out.nil hk8 | exact (HK.out.alloc _).nil hk8 | exact ((HK.out.alloc _).alloc _).nil hk8); clear hk8; clear hL3 hS3)
          | (go_at_call_of 19 (Value.slice A3 pm.length c3); refine (HS3.out _ _ A3 c3 S3 _ A2 c2 S2 (by first | exact HK.out | exact HK.out.alloc _ | exact (HK.out.alloc _).alloc _) (by first | exact Keep.refl _ _ | exact (Keep.refl [] _).alloc _ | exact ((Keep.refl [] _).alloc _).alloc _) (by first | exact Keep.refl _ _ | exact (Keep.refl [] _).alloc _ | exact ((Keep.refl [] _).alloc _).alloc _) HL3.out HL2.out).mono ?_; rintro x w9 ⟨rfl, hk9⟩; have HK : Hid (Keep [] w _) := (by first | exact HK.out.nil hk9 | exact (HK.out.alloc _).nil hk9 | exact ((HK.out.alloc _).alloc _).nil hk9); clear hk9))
        all_goals
          go_ret
          exact ⟨rfl, by first | exact HK.out | exact HK.out.alloc _⟩
  · have HP1 : ∀ W, Keep [] w W → Hid _ := fun W hW => Lib.hid (hp1 W hW)
    have y1 : (e1 == 0) = false := by simpa using he1
    have y2 : (e1 != 0) = true := by simpa using he1
    clear hp1 he1
    rcases F2 with ⟨e, q, he, hp⟩ | ⟨pm, t2, e2, he2, hp, hpr, h0⟩
    · have HP2 : ∀ W, Keep [] w W → Hid _ := fun W hW => Lib.hid (hp W hW)
      have z1 : (e == 0) = false := by simpa using he
      have z2 : (e != 0) = true := by simpa using he
      clear hp he
      go_enter Tryz.func5, Tryz.ntmps5
      go_wp2_with (first
        | (go_at_call 9; refine HW.out.mono ?_; rintro x w1 ⟨rfl, hk1⟩; have HK := Lib.hid hk1; clear hk1)
        | (go_at_call 10; refine (HSM _ HK.out).out.mono ?_; rintro x w2 ⟨⟨b, rfl⟩, hk2⟩; have HK := Lib.hid (HK.out.nil hk2); clear hk2; cases b)
        | (go_at_call_of 11 (Value.slice A m cap); refine (HP1 _ HK.out).out.mono ?_; rintro x w3 ⟨rfl, hk3⟩; have HK := Lib.hid (HK.out.nil hk3); clear hk3)
        | (go_at_call_of 18 (Value.string s); refine (HP2 _ (by first | exact HK.out | exact HK.out.alloc _ | exact (HK.out.alloc _).alloc _)).out.mono ?_; rintro x w6 ⟨rfl, hk6⟩; have HK : Hid (Keep [] w _) := (by first | exact HK.out.nil hk6 | exact (HK.out.alloc _).nil hk6 | exact ((HK.out.alloc _).alloc _).nil hk6); clear hk6))
      all_goals
        go_ret
        exact ⟨rfl, by first | exact HK.out | exact HK.out.alloc _⟩
    · have HP2 : ∀ W, Keep [] w W → Hid _ := fun W hW => Lib.hid (hp W hW)
      have HR2 := Lib.hid hpr
      clear hp hpr
      rcases he2 with ⟨rfl, hlen⟩ | rfl
      · have hl : (1000 : Int) < s.size := by omega
        clear h0 hlen
        go_enter Tryz.func5, Tryz.ntmps5
        go_wp2_with (first
          | (go_at_call 9; refine HW.out.mono ?_; rintro x w1 ⟨rfl, hk1⟩; have HK := Lib.hid hk1; clear hk1)
          | (go_at_call 10; refine (HSM _ HK.out).out.mono ?_; rintro x w2 ⟨⟨b, rfl⟩, hk2⟩; have HK := Lib.hid (HK.out.nil hk2); clear hk2; cases b)
          | (go_at_call_of 11 (Value.slice A m cap); refine (HP1 _ HK.out).out.mono ?_; rintro x w3 ⟨rfl, hk3⟩; have HK := Lib.hid (HK.out.nil hk3); clear hk3)
          | (go_at_call_of 18 (Value.string s); refine (HP2 _ (by first | exact HK.out | exact HK.out.alloc _ | exact (HK.out.alloc _).alloc _)).out.mono ?_; rintro x w6 ⟨A2, c2, S2, rfl, hL2, hS2, hk6⟩; have HL2 := Lib.hid hL2; have HS2 := Lib.hid hS2; have HK : Hid (Keep [] w _) := (by first | exact HK.out.nil hk6 | exact (HK.out.alloc _).nil hk6 | exact ((HK.out.alloc _).alloc _).nil hk6); clear hk6; clear hL2 hS2)
          | (go_at_call 11; refine (HR2.out _ _ A2 c2 S2 (by first | exact HK.out | exact HK.out.alloc _ | exact (HK.out.alloc _).alloc _) (by first | exact Keep.refl _ _ | exact (Keep.refl [] _).alloc _ | exact ((Keep.refl [] _).alloc _).alloc _) HL2.out HS2.out).mono ?_; rintro x w7 ⟨rfl, hk7⟩; have HB7 : Hid (Blk w7 w6.heap.size 36 #[.int .i64 0, .int .i64 0]) := (Blk.new w6 36 #[.int .i64 0, .int .i64 0]).keep hk7 (by simp); have HL2 : Hid (Lies J S2 w7 (.slice A2 pm.length c2) pm) := HL2.out.keep (bs := []) (by first | exact hk7 | exact ((Keep.refl [] _).alloc _).nil hk7) (fun x hx => absurd hx List.not_mem_nil); have HK : Hid (Keep [] w _) := (by first | exact HK.out.nil hk7 | exact (HK.out.alloc _).nil hk7 | exact ((HK.out.alloc _).alloc _).nil hk7); clear hk7))
        all_goals
          go_ret
          exact ⟨rfl, by first | exact HK.out | exact HK.out.alloc _⟩
      · obtain ⟨hp3, hs3⟩ := h0 rfl
        have HP3 : ∀ W, Keep [] w W → Hid _ := fun W hW => Lib.hid (hp3 W hW)
        have HS3 := Lib.hid hs3
        clear hp3 hs3 h0
        go_enter Tryz.func5, Tryz.ntmps5
        go_wp2_with (first
          | (go_at_call 9; refine HW.out.mono ?_; rintro x w1 ⟨rfl, hk1⟩; have HK := Lib.hid hk1; clear hk1)
          | (go_at_call 10; refine (HSM _ HK.out).out.mono ?_; rintro x w2 ⟨⟨b, rfl⟩, hk2⟩; have HK := Lib.hid (HK.out.nil hk2); clear hk2; cases b)
          | (go_at_call_of 11 (Value.slice A m cap); refine (HP1 _ HK.out).out.mono ?_; rintro x w3 ⟨rfl, hk3⟩; have HK := Lib.hid (HK.out.nil hk3); clear hk3)
          | (go_at_call_of 18 (Value.string s); refine (HP2 _ (by first | exact HK.out | exact HK.out.alloc _ | exact (HK.out.alloc _).alloc _)).out.mono ?_; rintro x w6 ⟨A2, c2, S2, rfl, hL2, hS2, hk6⟩; have HL2 := Lib.hid hL2; have HS2 := Lib.hid hS2; have HK : Hid (Keep [] w _) := (by first | exact HK.out.nil hk6 | exact (HK.out.alloc _).nil hk6 | exact ((HK.out.alloc _).alloc _).nil hk6); clear hk6; clear hL2 hS2)
          | (go_at_call 11; refine (HR2.out _ _ A2 c2 S2 (by first | exact HK.out | exact HK.out.alloc _ | exact (HK.out.alloc _).alloc _) (by first | exact Keep.refl _ _ | exact (Keep.refl [] _).alloc _ | exact ((Keep.refl [] _).alloc _).alloc _) HL2.out HS2.out).mono ?_; rintro x w7 ⟨rfl, hk7⟩; have HB7 : Hid (Blk w7 w6.heap.size 36 #[.int .i64 0, .int .i64 0]) := (Blk.new w6 36 #[.int .i64 0, .int .i64 0]).keep hk7 (by simp); have HL2 : Hid (Lies J S2 w7 (.slice A2 pm.length c2) pm) := HL2.out.keep (bs := []) (by first | exact hk7 | exact ((Keep.refl [] _).alloc _).nil hk7) (fun x hx => absurd hx List.not_mem_nil); have HK : Hid (Keep [] w _) := (by first | exact HK.out.nil hk7 | exact (HK.out.alloc _).nil hk7 | exact ((HK.out.alloc _).alloc _).nil hk7); clear hk7)
          | (go_at_call_of 18 (Value.string t2); refine (HP3 _ (by first | exact HK.out | exact HK.out.alloc _ | exact (HK.out.alloc _).alloc _)).out.mono ?_; rintro x w8 ⟨A3, c3, S3, rfl, hL3, hS3, hk8⟩; have HL3 := Lib.hid hL3; have hB8 := HB7.out.keep hk8 (by simp); have k0 : w8.cell? ⟨w6.heap.size, 0, none⟩ = some (.int .i64 0) := hB8.cell_eq rfl; have k1 : w8.cell? ⟨w6.heap.size, 1, none⟩ = some (.int .i64 0) := hB8.cell_eq rfl; have z0 := hB8.frozen 0; have z1 := hB8.frozen 1; have i0 : w8.setCell ⟨w6.heap.size, 0, none⟩ (.int .i64 0) = w8 := setCell_idle hB8 rfl; have i1 : w8.setCell ⟨w6.heap.size, 1, none⟩ (.int .i64 0) = w8 := setCell_idle hB8 rfl; clear hB8; have HL2 : Hid (Lies J S2 w8 (.slice A2 pm.length c2) pm) := HL2.out.keep (bs := []) (by first | exact hk8 | exact ((Keep.refl [] _).alloc _).nil hk8) (fun x hx => absurd hx List.not_mem_nil); have HK : Hid (Keep [] w _) := (by first | exact HK.out.nil hk8 | exact (HK.out.alloc _).nil hk8 | exact ((HK.out.alloc _).alloc _).nil hk8); clear hk8; clear hL3 hS3)
          | (go_at_call_of 19 (Value.slice A3 pm.length c3); refine (HS3.out _ _ A3 c3 S3 _ A2 c2 S2 (by first | exact HK.out | exact HK.out.alloc _ | exact (HK.out.alloc _).alloc _) (by first | exact Keep.refl _ _ | exact (Keep.refl [] _).alloc _ | exact ((Keep.refl [] _).alloc _).alloc _) (by first | exact Keep.refl _ _ | exact (Keep.refl [] _).alloc _ | exact ((Keep.refl [] _).alloc _).alloc _) HL3.out HL2.out).mono ?_; rintro x w9 ⟨rfl, hk9⟩; have HK : Hid (Keep [] w _) := (by first | exact HK.out.nil hk9 | exact (HK.out.alloc _).nil hk9 | exact ((HK.out.alloc _).alloc _).nil hk9); clear hk9))
        all_goals
          go_ret
          exact ⟨rfl, by first | exact HK.out | exact HK.out.alloc _⟩
end Go.Proofs.YtjldgcpmdcoejaaGreatDoor

namespace Go.Proofs.YtjldgcpmdcoejaaGreatDoor.mback
open Go.ChangeShapes Go.WideShapes Go.ChangeAt Go.RowKit

set_option maxRecDepth 100000 in
theorem contract (H : Type) (enc : TypeId × Value → H) (W : World) (base : Nat) (args : Array Value) (ds gs : List (DataW H)) (before : List MemPlace)
    (hval : ∀ (j : Nat) t v, Tryz.f5.params[j]? = some t → args[j]? = some v → Value.okWide Tryz.prog W .any base t v)
    (hW : DataW.Whole enc Tryz.prog Tryz.f5.params.toList Rows.messageBackSpec.vars false W args.toList ds gs before)
    (hL : laidMetH Tryz.prog Rows.messageBackUptoRow.laid W) (hsh : W.ShapedOpen Tryz.prog) (hk : Rows.uptoSmall H (ds ++ gs) = true) :
    Calls Tryz.prog 5 args W fun e W' => ∃ v, e = .returned v ∧ Rows.messageBackSpec.post enc Tryz.prog Tryz.f5 false true false false W args v W' := by
  have hW' := hW
  obtain ⟨p, q, hA0, hV, rfl, hfz, hnd⟩ := hW
  have hA : DataW.TrodAll enc Tryz.prog W 0 (fun _ => true) true Tryz.f5.params.toList args.toList ds p := hA0
  have hA1 := hA
  rw [Tryz.params5] at hA hval
  obtain ⟨v0, vs0, d0, ds0, p0, q0, hargs, rfl, rfl, h0, r0⟩ := trodAll_cons hA
  obtain ⟨v1, vs1, d1, ds1, p1, q1, hargs1, rfl, rfl, h1, r1⟩ := trodAll_cons r0
  obtain ⟨rfl, rfl, rfl⟩ := trodAll_nil r1
  obtain rfl : args = #[v0, v1] := by cases args; simp_all
  obtain ⟨rfl, rfl⟩ := trodVars_none hV
  have hlt := fun x hx => hW'.lt x hx
  have g0 := h0
  have g1 := h1
  obtain ⟨s, rfl, rfl, rfl, ws⟩ := Go.ChangeMaps.open_string Tryz.underlying9 (hval 0 9 v0 rfl rfl) h0
  have hbk : Rows.uptoBulk (DataW.lit (H := H) (.string s.data.toList)) ≤ 1048576 ∧ Rows.uptoBulk d1 ≤ 1048576 := by
    have h1 : Rows.uptoBulkAll ([.lit (.string s.data.toList), d1] ++ []) ≤ 1048576 := by simpa [Rows.uptoSmall] using hk
    have h2 := up_at ([.lit (.string s.data.toList), d1] ++ []) 0 _ rfl
    have h3 := up_at ([.lit (.string s.data.toList), d1] ++ []) 1 d1 rfl
    omega
  have hs : s.size ≤ 9223372036854775000 := by
    have := up_str (H := H) s
    omega
  obtain ⟨A', m', k', rfl⟩ := okWide_slice Tryz.underlying22 (hval 1 22 v1 rfl rfl)
  obtain ⟨fuel', hf'⟩ := h1
  have hf3 : DataW.trod enc Tryz.prog W 0 (fun _ => true) true fuel' 22 [.slice A' m' k'] = some (d1, p1) := hf'
  obtain ⟨l', hl', hb'⟩ := open_parts 1048576 fuel' (.slice A' m' k') _ hf3 hbk.2
  refine (law_back _ s l' (InW W) (.slice A' m' k') _ W (env_m hL hsh) hl' (fun x hx => hx) (Nat.le_trans (hb' _) (Nat.le_trans hbk.2 (by omega))) hs).mono fun e W' ⟨he, hk⟩ => ?_
  subst he
  have hb := hk.toBelow
  have t0 := hb.trod laidOut (by kernel_rfl) (of_decide_eq_true (by kernel_rfl)) g0 (fun x hx => by cases hx)
  have t1 := hb.trod laidOut (by kernel_rfl) (of_decide_eq_true (by kernel_rfl)) g1 (fun x hx => hlt x (by simp [hx]))
  exact ⟨_, rfl, _, _, _, [], _, [], hW', trodAll_cons_mk (shut_bool Tryz.underlying4 _) trodAll_mk0, trodAll_cons_mk t0 (trodAll_cons_mk t1 trodAll_mk0), rfl, hb.frame _, fun h => by cases h⟩

theorem reads (os : Os) {H : Type} (enc : TypeId × Value → H) : ∃ places, DataW.whole enc Tryz.prog ((laidWorld os).forCall (fun _ _ => 0) ⟨#[], #[.string ⟨#[]⟩, .slice none 0 0], []⟩).memory Tryz.f5.params.toList Rows.messageBackSpec.vars false #[.string ⟨#[]⟩, .slice none 0 0].toList 8 = some ([.lit (.string []), .nil], [], places) :=
  ⟨[], by kernel_rfl⟩

set_option maxRecDepth 100000 in
theorem lifted (os : Os) (started : os.Started) (H : Type) (enc : TypeId × Value → H) (F : Stop.Interp) :
    ReturnsInHanded {} Tryz.checked os 5 .any ((Rows.OpenSpec.upto Rows.messageBackSpec).preRow enc Tryz.prog Tryz.f5 Rows.messageBackUptoRow.domain false Rows.messageBackUptoRow.laid) (((Rows.OpenSpec.upto Rows.messageBackSpec).at F).post enc Tryz.prog Tryz.f5 false true false false) := by
  obtain ⟨places, hx⟩ := reads os enc
  refine returnsInHanded_of_row (C := Tryz.checked) (s := Rows.OpenSpec.upto Rows.messageBackSpec) own started (by kernel_rfl) Tryz.func5
    (witness_row_atRef (enc := enc) (C := Tryz.checked) false (laidWorld os) #[.string ⟨#[]⟩, .slice none 0 0] rfl (by kernel_rfl) (by kernel_rfl) (by kernel_rfl)
      (OpenSpec.preRow_of_cond 8 hx (by kernel_rfl) (fun k hk => by cases hk; kernel_rfl) (by kernel_rfl) (laid_met os _))) ?_
  intro W base args ds gs before hval hW _ hcond _ hL hsh _
  exact contract H enc W base args ds gs before hval hW hL hsh (hcond _ rfl)

theorem said : Rows.MessageBackUptoSaid :=
  OpenClaim.holds_of_cond 5 Tryz.f5 rfl rfl rfl rfl rfl rfl rfl ⟨rfl, rfl, rfl, rfl, rfl⟩ rfl rfl rfl rfl rfl (by kernel_rfl) Tryz.func5 (by kernel_rfl)
    (of_decide_eq_true (by kernel_rfl)) (by unfold Func.isWrapper; first | (rw [if_pos (by decide +kernel)]; kernel_rfl) | (rw [if_neg (by decide +kernel)]; exact ⟨rfl, rfl⟩))
    (fun os started H enc _ F => by rw [OpenClaim.pre_eq_preRow]; exact lifted os started H enc F)
theorem plain (f : FuncId) (fn : Func) (hf : Tryz.pinned.checked.prog.funcNamed "vernacular/vernacularlaw19.MessageBack" = some f) (hfn : Tryz.pinned.checked.prog.funcs[f]? = some fn) :
    true = Tryz.pinned.checked.prog.looks [] ∧ ∀ (j : Nat) t, fn.params[j]? = some t → Tryz.pinned.checked.prog.wantsStandIn t = false := by
  obtain rfl : f = 5 := Option.some.inj ((show Tryz.prog.funcNamed "vernacular/vernacularlaw19.MessageBack" = some 5 by kernel_rfl).symm.trans hf) |>.symm
  obtain rfl : fn = Tryz.f5 := (Option.some.inj (Tryz.func5.symm.trans hfn)).symm
  refine ⟨by kernel_rfl, fun j t ht => ?_⟩
  rw [Tryz.params5] at ht
  have hm := Array.mem_of_getElem? ht
  have hm : t = 9 ∨ t = 22 := by simpa using hm
  rcases hm with rfl | rfl
  · exact (show Tryz.prog.wantsStandIn 9 = false by kernel_rfl)
  · exact (show Tryz.prog.wantsStandIn 22 = false by kernel_rfl)
theorem card : Rows.MessageBackUptoCardSaid :=
  Claim7.holds_tied_plain_at .later [] _ _ _ _ said (fun _ h => by cases h) (by kernel_rfl) (fun _ h => by cases h) messageBackUpto_row_tie rfl ⟨rfl, rfl⟩ (by kernel_rfl) rfl plain (by kernel_rfl)
end Go.Proofs.YtjldgcpmdcoejaaGreatDoor.mback
