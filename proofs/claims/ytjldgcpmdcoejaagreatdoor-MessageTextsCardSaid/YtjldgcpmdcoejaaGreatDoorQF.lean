/- Walks: form, Print, Check of messages. -/
import Derived.Test.YtjldgcpmdcoejaaGreatDoorPU
import Derived.Test.YtjldgcpmdcoejaaGreatDoorPZ
namespace Go.Proofs.YtjldgcpmdcoejaaGreatDoor
open Go.RowKit

def formV (r : List UInt8 × Int) : Value := .tuple #[.string ⟨r.1.toArray⟩, .int .i64 r.2]
set_option maxRecDepth 100000 in
set_option maxHeartbeats 8000000 in
/-- form. -/
theorem form_any (n : Nat) (l : List PT) (S : Nat → Prop) (v : Value) (B : Nat) (w : World) (hE : EnvM B w) (hh : Lies n S w v l) (hS : ∀ x, S x → x < w.heap.size) (hq : allF PlainOK n l) (ho : allO offOK n l) (hb : bulkF n l ≤ 900000000) :
    Calls Tryz.prog 25 #[v] w fun e w' => e = .returned (formV (formF n l)) ∧ Keep [] w w' := by
  obtain ⟨A, m, cap, rfl⟩ := hh.form
  have HR : Hid (Calls Tryz.prog 51 #[.slice A m cap, .bool false] w fun e w' => e = .returned (.bool (rightF n l false)) ∧ Keep [] w w') := right_any n l false S _ B w hE hh hq (by omega)
  obtain ⟨f, hf⟩ : ∃ f, formF n l = f := ⟨_, rfl⟩
  have HF : Hid (formF n l = f) := hf
  rw [hf]
  cases hr : rightF n l false with
  | false =>
    rw [hr] at HR
    have hf1 : f = ([], 2) := by rw [← hf]; unfold formF; rw [if_pos hr]
    subst hf1
    clear hE hh hq ho hb hf HF hr hS
    go_enter Tryz.func25, Tryz.ntmps25
    go_wp2_with (go_at_call 51; refine HR.out.mono ?_; rintro e w1 ⟨rfl, hk1⟩; have HK1 := Lib.hid hk1; clear hk1)
    exact bodyPost_ret (v := formV ([], 2)) (by simp [results, Tryz.results25, go_sem, formV]) rfl ⟨rfl, HK1.out⟩
  | true =>
    rw [hr] at HR
    have hf1 : f = if 1024 < sizeF n l ∨ 8 < depthF n l ∨ 4096 < (writeF n l false).length then ([], 3) else (writeF n l false, 0) := by rw [← hf]; unfold formF; rw [if_neg (by rw [hr]; decide)]
    have HF1 := Lib.hid hf1
    have HL := Lib.hid hh
    have HE := Lib.hid hE
    have HS := Lib.hid hS
    have HO := Lib.hid ho
    have HSZ : ∀ W, Lies n S W (.slice A m cap) l → Hid (Calls Tryz.prog 53 #[.slice A m cap] W fun e w' => e = .returned (.int .i64 (sizeF n l)) ∧ Keep [] W w') := fun W hW => size_any n l S _ W hW (by omega)
    have HDP : ∀ W, Lies n S W (.slice A m cap) l → Hid (Calls Tryz.prog 22 #[.slice A m cap] W fun e w' => e = .returned (.int .i64 (depthF n l)) ∧ Keep [] W w') := fun W hW => depth_any n l S _ W hW (by omega)
    have HWR : ∀ b W, EnvM B W → B ≤ b → Lies n S W (.slice A m cap) l → (∀ x, S x → x < b) → Bld b [] W → Hid (Calls Tryz.prog 52 #[.pointer (some ⟨b, 0, none⟩), .slice A m cap, .bool false] W (WPost b [] (writeF n l false) W)) := fun b W h1 h2 h3 h4 h5 => write_any n l false S _ b [] B W h1 h2 h3 h4 h5 ho (by omega) (by simp; omega)
    have hwl := allO_len n l false ho
    have hnw : (writeF n l false).length ≤ 90000000000 := by omega
    clear hE hh hq ho hb hf HF hr hS hf1 hwl
    generalize sizeF n l = sz at *
    generalize depthF n l = dp at *
    generalize writeF n l false = out at *
    go_enter Tryz.func25, Tryz.ntmps25
    go_wp2_with (first
      | (go_at_call 51; refine HR.out.mono ?_; rintro e w1 ⟨rfl, hk1⟩; have HK1 := Lib.hid hk1; have HB1 := Lib.hid hk1.toBelow; have HL1 := Lib.hid (HL.out.keep hk1 (by simp)); have HE1 := Lib.hid (HE.out.keep hk1 (by simp)); clear hk1)
      | (go_at_call 52; refine (HWR w1.heap.size (w1.alloc (.cells #[.pointer none, .slice none 0 0] 83)) (HE1.out.keep ((Keep.refl [] w1).alloc _) (by simp)) HE1.out.env.le (HL1.out.keep (bs := []) ((Keep.refl [] w1).alloc _) (by simp)) (fun x hx => Nat.lt_of_lt_of_le (HS.out x hx) HB1.out.size) (Bld.new' w1 _ rfl)).out.mono ?_; rintro e w2 ⟨rfl, hb2, hk2⟩; have hz1 := HB1.out.size; have HB2 := Lib.hid (HB1.out.trans ((((Keep.refl [] w1).alloc _).toBelow.trans (hk2.below.mono (Nat.le_refl _))).mono hz1)); have HBB2 := Lib.hid hb2; have HL2 := Lib.hid (HL1.out.keep (bs := []) (Keep.of_below (((Keep.refl [] w1).alloc _).toBelow.trans (hk2.below.mono (Nat.le_refl _)))) (by simp)); clear hb2 hk2)
      | (go_at_call 53; refine (HSZ _ HL2.out).out.mono ?_; rintro e w3 ⟨rfl, hk3⟩; have HL3 := Lib.hid (HL2.out.keep hk3 (by simp)); have HBB3 := Lib.hid (HBB2.out.keep_nil hk3); have HB3 := Lib.hid (HB2.out.trans (hk3.toBelow.mono HB2.out.size)); clear hk3)
      | (go_at_call 22; refine (HDP _ HL3.out).out.mono ?_; rintro e w4 ⟨rfl, hk4⟩; have HBB4 := Lib.hid (HBB3.out.keep_nil hk4); have HB4 := Lib.hid (HB3.out.trans (hk4.toBelow.mono HB3.out.size)); clear hk4)
      | (go_at_call 54; refine (bld_len HBB4.out).mono ?_; rintro e w5 ⟨rfl, hw5⟩; subst hw5)
      | (go_at_call 55; refine (bld_str HBB4.out).mono ?_; rintro e w6 ⟨rfl, _, hb6, _⟩; have HB6 := Lib.hid (HB4.out.trans (hb6.mono (by have := HB1.out.size; omega))); clear hb6))
    all_goals
      first
        | (have hf : f = ([], 3) := by (rw [HF1.out, if_pos (by omega)])
           subst hf
           refine bodyPost_ret (v := formV ([], 3)) (by simp [results, Tryz.results25, go_sem, formV]) rfl ⟨rfl, ?_⟩
           first | exact Keep.of_below HB4.out | exact Keep.of_below HB3.out)
        | (have hf : f = (out, 0) := by (rw [HF1.out, if_neg (by omega)])
           subst hf
           exact bodyPost_ret (v := formV (out, 0)) (by simp [results, Tryz.results25, go_sem, formV]) rfl ⟨rfl, Keep.of_below HB6.out⟩)
set_option maxRecDepth 100000 in
/-- Print. -/
theorem print_any (n : Nat) (l : List PT) (S : Nat → Prop) (v : Value) (B : Nat) (w : World) (hE : EnvM B w) (hh : Lies n S w v l) (hS : ∀ x, S x → x < w.heap.size) (hq : allF PlainOK n l) (ho : allO offOK n l) (hb : bulkF n l ≤ 900000000) :
    Calls Tryz.prog 11 #[v] w fun e w' => e = .returned (formV (formF n l)) ∧ Keep [] w w' := by
  have HF := Lib.hid (form_any n l S v B w hE hh hS hq ho hb)
  clear hE hh hS hq ho hb
  generalize formF n l = f at *
  obtain ⟨r, e⟩ := f
  unfold formV at HF ⊢
  go_enter Tryz.func11, Tryz.ntmps11
  go_wp2_with (go_at_call 25; refine HF.out.mono ?_; rintro e w1 ⟨rfl, hk1⟩; have HK1 := Lib.hid hk1; clear hk1)
  exact bodyPost_ret (v := .tuple #[.string ⟨r.toArray⟩, .int .i64 e]) (by simp [results, Tryz.results11, go_sem]) rfl ⟨rfl, HK1.out⟩
set_option maxRecDepth 100000 in
/-- Check. -/
theorem mcheck_any (n : Nat) (l : List PT) (S : Nat → Prop) (v : Value) (B : Nat) (w : World) (hE : EnvM B w) (hh : Lies n S w v l) (hS : ∀ x, S x → x < w.heap.size) (hq : allF PlainOK n l) (ho : allO offOK n l) (hb : bulkF n l ≤ 900000000) :
    Calls Tryz.prog 13 #[v] w fun e w' => e = .returned (.int .i64 (formF n l).2) ∧ Keep [] w w' := by
  have HF := Lib.hid (form_any n l S v B w hE hh hS hq ho hb)
  clear hE hh hS hq ho hb
  generalize formF n l = f at *
  obtain ⟨r, e⟩ := f
  unfold formV at HF
  go_enter Tryz.func13, Tryz.ntmps13
  go_wp2_with (go_at_call 25; refine HF.out.mono ?_; rintro e w1 ⟨rfl, hk1⟩; have HK1 := Lib.hid hk1; clear hk1)
  go_ret
  exact ⟨rfl, HK1.out⟩
end Go.Proofs.YtjldgcpmdcoejaaGreatDoor
