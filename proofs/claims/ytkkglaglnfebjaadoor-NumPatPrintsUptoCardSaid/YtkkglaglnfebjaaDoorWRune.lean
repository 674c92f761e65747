/- Walks: strings.ContainsRune on the bytes that dress and bare ask about, for every valid rune. -/
import Derived.Test.YtkkglaglnfebjaaDoorWCheck
import Derived.Test.YtkkglaglnfebjaaDoorBK
import Derived.Test.YtkkglaglnfebjaaDoorShelf
import Derived.Laws.Runes
import Derived.BigQuiet
import Derived.WalkMore
namespace Go.Proofs.YtkkglaglnfebjaaDoor
open Go.RowKit Go.IntWalk

theorem again_same2 {P : Program} {f : FuncId} {args : Array Value} {w : World} {a n : Nat} {v : Value} (h : Calls P f args (w.drewN (a + n)) fun e w' => e = .returned v ∧ w' = w.drewN (a + n)) : Calls P f args (w.drewN (a + n)) fun e w' => e = .returned v ∧ ∃ m, w' = w.drewN (a + m) :=
  h.mono fun _ _ hp => ⟨hp.1, n, hp.2⟩
/-- A scope through which the run jumps once, ahead. -/
theorem wp_scope_once {P : Program} {a : Act} {w : World} {Q : Exit → Act → World → Prop} {c rest : Code} (l : Nat) (hf : findLabel c l = some rest)
    (first : c.wp P (Exit.jump l (fun a w => rest.wp P (Exit.noGoto Q) a w) Q) a w) : (Code.scope c).wp P Q a w :=
  wp_scope_jumps l (fun a w => rest.wp P (Exit.noGoto Q) a w) (fun _ _ => 0) hf first fun _ _ hJ => wp_mono hJ fun e _ _ h => by
    cases e with
    | goto l' => exact absurd h id
    | _ => exact h
def specB (r : Int) : Bool := r == 35 || r == 48 || r == 44 || r == 46 || r == 59 || r == 123 || r == 125 || r == 37 || r == 45 || r == 43 || r == 164
theorem cont_ascii (r : Int) (w : World) (h0 : 0 ≤ r) (h1 : r < 128) :
    Calls Tryd.prog 108 #[.string ⟨#[35, 48, 44, 46, 59, 123, 125, 37, 45, 43, 194, 164]⟩, .int .i32 r] w fun e w' => e = .returned (.bool (specB r)) ∧ Keep [] w w' := by
  refine (Tryd.strings_ContainsRune_ascii ⟨#[35, 48, 44, 46, 59, 123, 125, 37, 45, 43, 194, 164]⟩ r w h0 h1).mono ?_
  rintro e w' ⟨rfl, rfl⟩
  refine ⟨?_, Keep.refl _ _⟩
  obtain ⟨n, rfl⟩ : ∃ n : Fin 128, r = (n.val : Int) := ⟨⟨r.toNat, by omega⟩, by simp; omega⟩
  congr 2
  clear h0 h1
  revert n
  decide +kernel
theorem tail_all : ∀ n : Fin 256, 128 ≤ n.val → n.val < 192 → (Lib.indexByte [44, 46, 59, 123, 125, 37, 45, 43, 194, 164] (UInt8.ofNat n.val) = if n.val = 164 then 9 else -1) ∧
    (Lib.indexByte [46, 59, 123, 125, 37, 45, 43, 194, 164] (UInt8.ofNat n.val) = if n.val = 164 then 8 else -1) ∧ (Lib.indexByte [59, 123, 125, 37, 45, 43, 194, 164] (UInt8.ofNat n.val) = if n.val = 164 then 7 else -1) := by decide +kernel
theorem u8_lt (b : UInt8) : b.toNat < 256 := b.toNat_lt
theorem cut_next (W : World) : Calls Tryd.prog 134 #[.int .i64 12] W fun e w' => e = .returned (.int .i64 3) ∧ W = w' :=
  (Tryd.bytealg_Cutover 12 (by omega) (by omega) W).mono fun e w' ⟨a, b⟩ => ⟨a, b.symm⟩
theorem valid_next (W : World) (r : Int) (hv : Lib.validRune r = true) : Calls Tryd.prog 137 #[.int .i32 r] W fun e w' => e = .returned (.bool true) ∧ W = w' :=
  (Tryd.utf8_ValidRune r W).mono fun e w' ⟨a, b⟩ => ⟨by rw [a, hv], b.symm⟩


set_option maxRecDepth 100000 in
set_option maxHeartbeats 1000000 in
theorem irune2 (r : Int) (a b : UInt8) (he : Utf8.encode r = ⟨#[a, b]⟩) (h0 : 128 ≤ r) (hne : r ≠ 65533) (hv : Lib.validRune r = true) (hb1 : 128 ≤ b.toNat) (hb2 : b.toNat < 192) (w : World) :
    Calls Tryd.prog 127 #[.string ⟨#[35, 48, 44, 46, 59, 123, 125, 37, 45, 43, 194, 164]⟩, .int .i32 r] w fun e w' => e = .returned (.int .i64 (if (b.toNat = 164 ∧ a.toNat = 194) then 10 else -1)) ∧ Keep [] w w' := by
  have hT : ∀ W, Hid (Calls Tryd.prog 89 #[.string ((⟨#[35, 48, 44, 46, 59, 123, 125, 37, 45, 43, 194, 164]⟩ : ByteArray).extract 2 12), .int .u8 (b.toNat : Int)] W fun e w' => e = .returned (.int .i64 (if b.toNat = 164 then 9 else -1)) ∧ w' = W) := fun W => (Tryd.strings_IndexByte _ (b.toNat : Int) W).mono fun e w' ⟨g1, g2⟩ => ⟨by
    rw [g1, show ((⟨#[35, 48, 44, 46, 59, 123, 125, 37, 45, 43, 194, 164]⟩ : ByteArray).extract 2 12).data.toList = [44, 46, 59, 123, 125, 37, 45, 43, 194, 164] from by decide +kernel]
    have := (tail_all ⟨b.toNat, u8_lt _⟩ hb1 hb2).1
    simp only [UInt8.ofNat_toNat] at this
    simp only [Int.toNat_natCast, Nat.toUInt8_eq, UInt8.ofNat_toNat, this], g2⟩
  generalize hz : (if b.toNat = 164 then (9 : Int) else -1) = z at hT
  have hVr := fun W => Lib.hid (valid_next W r hv)
  have hCu := fun W => Lib.hid (cut_next W)
  have t1 : decide (0 ≤ r) = true := by simp; omega
  have t2 : decide (r < 128) = false := by simp; omega
  have t3 : (r == 65533) = false := by simpa using hne
  have t4 : ((((⟨#[35, 48, 44, 46, 59, 123, 125, 37, 45, 43, 194, 164]⟩ : ByteArray)[1]).toNat : Int) != ((⟨#[a, b]⟩ : ByteArray)[1]'(show 1 < 2 by decide)).toNat) = true := by change ((48 : Int) != b.toNat) = true; rw [bne_iff_ne]; omega
  have hcv : ∀ W : World, (convert 21 9 (.int .i32 r)).run Tryd.prog W = .ok (.string ⟨#[a, b]⟩) W := fun W => by rw [run_convert_int_string W _ _ _ _ (by kernel_rfl) (by kernel_rfl), he]
  have s1 : IntKind.i64.wrap 2 = 2 := by decide
  clear hne hv he
  go_enter Tryd.func127, Tryd.ntmps127
  go_wp2_with (go_at_call 137; refine (hVr _).out.mono ?_; rintro e w' ⟨rfl, rfl⟩)
  refine wp_scope_straight ?_
  go_wp2
  go_loopg [9, 10] 2 (fun k s9 s10 wx => (k = 2 ∧ s9 = .int .i64 1 ∧ s10 = .int .i64 0 ∧ Keep [] w wx) ∨ (k = 1 ∧ s9 = .int .i64 12 ∧ s10 = .int .i64 1 ∧ b.toNat = 164 ∧ a.toNat ≠ 194 ∧ Keep [] w wx))
  case atStart => exact .inl ⟨rfl, rfl, rfl, Keep.refl _ _⟩
  case round =>
    rcases hrel with ⟨rfl, rfl, rfl, hk⟩ | ⟨rfl, rfl, rfl, hl, hp, hk⟩
    · have HK := Lib.hid hk
      clear hk
      by_cases h164 : b.toNat = 164
      · rw [if_pos h164] at hz
        subst hz
        by_cases h194 : a.toNat = 194
        · have t5 : ((((⟨#[35, 48, 44, 46, 59, 123, 125, 37, 45, 43, 194, 164]⟩ : ByteArray)[10]).toNat : Int) != ((⟨#[a, b]⟩ : ByteArray)[0]'(show 0 < 2 by decide)).toNat) = false := by change ((194 : Int) != a.toNat) = false; rw [bne_eq_false_iff_eq]; omega
          go_wp2
          refine wp_scope_straight ?_
          go_wp2
          go_quiet (fail)
          go_wp2
          go_quiet ((go_at_call 89; exact again_same2 (hT _).out))
          go_wp2
          go_loopg [12] 1 (fun k s12 wx => (k = 1 ∧ s12 = .int .i64 1 ∧ Keep [] w wx) ∨ (k = 0 ∧ s12 = .int .i64 2 ∧ Keep [] w wx))
          case atStart => exact .inl ⟨rfl, rfl, HK.out.drewN _⟩
          case round =>
            rcases hrel with ⟨rfl, rfl, hk⟩ | ⟨rfl, rfl, hk⟩
            · have HK2 := Lib.hid hk
              clear hk
              go_wp2
              go_quiet (fail)
              go_wp2
              go_roundg 0
              case measure => omega
              case rel => exact .inr ⟨rfl, rfl, HK2.out.drewN _⟩
            · have HK2 := Lib.hid hk
              clear hk
              go_wp2
              go_simp
              go_ret
              exact ⟨by rw [if_pos ⟨h164, h194⟩]; rfl, HK2.out⟩
        · have t5 : ((((⟨#[35, 48, 44, 46, 59, 123, 125, 37, 45, 43, 194, 164]⟩ : ByteArray)[10]).toNat : Int) != ((⟨#[a, b]⟩ : ByteArray)[0]'(show 0 < 2 by decide)).toNat) = true := by change ((194 : Int) != a.toNat) = true; rw [bne_iff_ne]; omega
          go_wp2
          refine wp_scope_once 0 rfl ?_
          go_wp2
          go_quiet (fail)
          go_wp2
          go_quiet ((go_at_call 89; exact again_same2 (hT _).out))
          go_wp2
          go_loopg [12] 1 (fun k s12 wx => k = 1 ∧ s12 = .int .i64 1 ∧ Keep [] w wx)
          case atStart => exact ⟨rfl, rfl, HK.out.drewN _⟩
          case round =>
            obtain ⟨rfl, rfl, hk⟩ := hrel
            have HK2 := Lib.hid hk
            clear hk
            go_wp2
            go_quiet (fail)
            go_wp2
            refine wp_goto ?_
            refine ⟨rfl, ?_⟩
            go_wp2_with (go_at_call 134; refine (hCu _).out.mono ?_; rintro e w' ⟨rfl, rfl⟩)
            simp only [Exit.noGoto]
            go_wp2
            go_roundg 1
            case measure => omega
            case rel => exact .inr ⟨rfl, rfl, rfl, h164, h194, HK2.out.drewN _⟩
      · rw [if_neg h164] at hz
        subst hz
        go_wp2
        refine wp_scope_straight ?_
        go_wp2
        go_quiet (fail)
        go_wp2
        go_quiet ((go_at_call 89; exact again_same2 (hT _).out))
        go_wp2
        go_simp
        go_ret
        exact ⟨by rw [if_neg (fun hc => h164 hc.1)]; rfl, HK.out.drewN _⟩
    · have HK := Lib.hid hk
      clear hk
      go_wp2
      go_simp
      go_ret
      exact ⟨by rw [if_neg (fun hc => hp hc.2)]; rfl, HK.out⟩


set_option maxRecDepth 100000 in
set_option maxHeartbeats 1000000 in
theorem irune3 (r : Int) (a b c : UInt8) (he : Utf8.encode r = ⟨#[a, b, c]⟩) (h0 : 128 ≤ r) (hne : r ≠ 65533) (hv : Lib.validRune r = true) (hb1 : 128 ≤ c.toNat) (hb2 : c.toNat < 192) (hp : b.toNat < 192) (w : World) :
    Calls Tryd.prog 127 #[.string ⟨#[35, 48, 44, 46, 59, 123, 125, 37, 45, 43, 194, 164]⟩, .int .i32 r] w fun e w' => e = .returned (.int .i64 (-1)) ∧ Keep [] w w' := by
  have hT : ∀ W, Hid (Calls Tryd.prog 89 #[.string ((⟨#[35, 48, 44, 46, 59, 123, 125, 37, 45, 43, 194, 164]⟩ : ByteArray).extract 3 12), .int .u8 (c.toNat : Int)] W fun e w' => e = .returned (.int .i64 (if c.toNat = 164 then 8 else -1)) ∧ w' = W) := fun W => (Tryd.strings_IndexByte _ (c.toNat : Int) W).mono fun e w' ⟨g1, g2⟩ => ⟨by
    rw [g1, show ((⟨#[35, 48, 44, 46, 59, 123, 125, 37, 45, 43, 194, 164]⟩ : ByteArray).extract 3 12).data.toList = [46, 59, 123, 125, 37, 45, 43, 194, 164] from by decide +kernel]
    have := (tail_all ⟨c.toNat, u8_lt _⟩ hb1 hb2).2.1
    simp only [UInt8.ofNat_toNat] at this
    simp only [Int.toNat_natCast, Nat.toUInt8_eq, UInt8.ofNat_toNat, this], g2⟩
  generalize hz : (if c.toNat = 164 then (8 : Int) else -1) = z at hT
  have hVr := fun W => Lib.hid (valid_next W r hv)
  have hCu := fun W => Lib.hid (cut_next W)
  have t1 : decide (0 ≤ r) = true := by simp; omega
  have t2 : decide (r < 128) = false := by simp; omega
  have t3 : (r == 65533) = false := by simpa using hne
  have t4 : ((((⟨#[35, 48, 44, 46, 59, 123, 125, 37, 45, 43, 194, 164]⟩ : ByteArray)[2]).toNat : Int) != ((⟨#[a, b, c]⟩ : ByteArray)[2]'(show 2 < 3 by decide)).toNat) = true := by change ((44 : Int) != c.toNat) = true; rw [bne_iff_ne]; omega
  have hcv : ∀ W : World, (convert 21 9 (.int .i32 r)).run Tryd.prog W = .ok (.string ⟨#[a, b, c]⟩) W := fun W => by rw [run_convert_int_string W _ _ _ _ (by kernel_rfl) (by kernel_rfl), he]
  have s1 : IntKind.i64.wrap 3 = 3 := by decide
  clear hne hv he
  go_enter Tryd.func127, Tryd.ntmps127
  go_wp2_with (go_at_call 137; refine (hVr _).out.mono ?_; rintro e w' ⟨rfl, rfl⟩)
  refine wp_scope_straight ?_
  go_wp2
  go_loopg [9, 10] 2 (fun k s9 s10 wx => (k = 2 ∧ s9 = .int .i64 2 ∧ s10 = .int .i64 0 ∧ Keep [] w wx) ∨ (k = 1 ∧ s9 = .int .i64 12 ∧ s10 = .int .i64 1 ∧ c.toNat = 164 ∧ b.toNat ≠ 194 ∧ Keep [] w wx))
  case atStart => exact .inl ⟨rfl, rfl, rfl, Keep.refl _ _⟩
  case round =>
    rcases hrel with ⟨rfl, rfl, rfl, hk⟩ | ⟨rfl, rfl, rfl, hl, hp, hk⟩
    · have HK := Lib.hid hk
      clear hk
      by_cases h164 : c.toNat = 164
      · rw [if_pos h164] at hz
        subst hz
        have h194 : ¬ b.toNat = 194 := by omega
        have t5 : ((((⟨#[35, 48, 44, 46, 59, 123, 125, 37, 45, 43, 194, 164]⟩ : ByteArray)[10]).toNat : Int) != ((⟨#[a, b, c]⟩ : ByteArray)[1]'(show 1 < 3 by decide)).toNat) = true := by change ((194 : Int) != b.toNat) = true; rw [bne_iff_ne]; omega
        go_wp2
        refine wp_scope_once 0 rfl ?_
        go_wp2
        go_quiet (fail)
        go_wp2
        go_quiet ((go_at_call 89; exact again_same2 (hT _).out))
        go_wp2
        go_loopg [12] 1 (fun k s12 wx => k = 1 ∧ s12 = .int .i64 1 ∧ Keep [] w wx)
        case atStart => exact ⟨rfl, rfl, HK.out.drewN _⟩
        case round =>
          obtain ⟨rfl, rfl, hk⟩ := hrel
          have HK2 := Lib.hid hk
          clear hk
          go_wp2
          go_quiet (fail)
          go_wp2
          refine wp_goto ?_
          refine ⟨rfl, ?_⟩
          go_wp2_with (go_at_call 134; refine (hCu _).out.mono ?_; rintro e w' ⟨rfl, rfl⟩)
          simp only [Exit.noGoto]
          go_wp2
          go_roundg 1
          case measure => omega
          case rel => exact .inr ⟨rfl, rfl, rfl, h164, h194, HK2.out.drewN _⟩
      · rw [if_neg h164] at hz
        subst hz
        go_wp2
        refine wp_scope_straight ?_
        go_wp2
        go_quiet (fail)
        go_wp2
        go_quiet ((go_at_call 89; exact again_same2 (hT _).out))
        go_wp2
        go_simp
        go_ret
        exact ⟨by rfl, HK.out.drewN _⟩
    · have HK := Lib.hid hk
      clear hk
      go_wp2
      go_simp
      go_ret
      exact ⟨by rfl, HK.out⟩


set_option maxRecDepth 100000 in
set_option maxHeartbeats 1000000 in
theorem irune4 (r : Int) (a b c d : UInt8) (he : Utf8.encode r = ⟨#[a, b, c, d]⟩) (h0 : 128 ≤ r) (hne : r ≠ 65533) (hv : Lib.validRune r = true) (hb1 : 128 ≤ d.toNat) (hb2 : d.toNat < 192) (hp : c.toNat < 192) (w : World) :
    Calls Tryd.prog 127 #[.string ⟨#[35, 48, 44, 46, 59, 123, 125, 37, 45, 43, 194, 164]⟩, .int .i32 r] w fun e w' => e = .returned (.int .i64 (-1)) ∧ Keep [] w w' := by
  have hT : ∀ W, Hid (Calls Tryd.prog 89 #[.string ((⟨#[35, 48, 44, 46, 59, 123, 125, 37, 45, 43, 194, 164]⟩ : ByteArray).extract 4 12), .int .u8 (d.toNat : Int)] W fun e w' => e = .returned (.int .i64 (if d.toNat = 164 then 7 else -1)) ∧ w' = W) := fun W => (Tryd.strings_IndexByte _ (d.toNat : Int) W).mono fun e w' ⟨g1, g2⟩ => ⟨by
    rw [g1, show ((⟨#[35, 48, 44, 46, 59, 123, 125, 37, 45, 43, 194, 164]⟩ : ByteArray).extract 4 12).data.toList = [59, 123, 125, 37, 45, 43, 194, 164] from by decide +kernel]
    have := (tail_all ⟨d.toNat, u8_lt _⟩ hb1 hb2).2.2
    simp only [UInt8.ofNat_toNat] at this
    simp only [Int.toNat_natCast, Nat.toUInt8_eq, UInt8.ofNat_toNat, this], g2⟩
  generalize hz : (if d.toNat = 164 then (7 : Int) else -1) = z at hT
  have hVr := fun W => Lib.hid (valid_next W r hv)
  have hCu := fun W => Lib.hid (cut_next W)
  have t1 : decide (0 ≤ r) = true := by simp; omega
  have t2 : decide (r < 128) = false := by simp; omega
  have t3 : (r == 65533) = false := by simpa using hne
  have t4 : ((((⟨#[35, 48, 44, 46, 59, 123, 125, 37, 45, 43, 194, 164]⟩ : ByteArray)[3]).toNat : Int) != ((⟨#[a, b, c, d]⟩ : ByteArray)[3]'(show 3 < 4 by decide)).toNat) = true := by change ((46 : Int) != d.toNat) = true; rw [bne_iff_ne]; omega
  have hcv : ∀ W : World, (convert 21 9 (.int .i32 r)).run Tryd.prog W = .ok (.string ⟨#[a, b, c, d]⟩) W := fun W => by rw [run_convert_int_string W _ _ _ _ (by kernel_rfl) (by kernel_rfl), he]
  have s1 : IntKind.i64.wrap 4 = 4 := by decide
  clear hne hv he
  go_enter Tryd.func127, Tryd.ntmps127
  go_wp2_with (go_at_call 137; refine (hVr _).out.mono ?_; rintro e w' ⟨rfl, rfl⟩)
  refine wp_scope_straight ?_
  go_wp2
  go_loopg [9, 10] 2 (fun k s9 s10 wx => (k = 2 ∧ s9 = .int .i64 3 ∧ s10 = .int .i64 0 ∧ Keep [] w wx) ∨ (k = 1 ∧ s9 = .int .i64 12 ∧ s10 = .int .i64 1 ∧ d.toNat = 164 ∧ c.toNat ≠ 194 ∧ Keep [] w wx))
  case atStart => exact .inl ⟨rfl, rfl, rfl, Keep.refl _ _⟩
  case round =>
    rcases hrel with ⟨rfl, rfl, rfl, hk⟩ | ⟨rfl, rfl, rfl, hl, hp, hk⟩
    · have HK := Lib.hid hk
      clear hk
      by_cases h164 : d.toNat = 164
      · rw [if_pos h164] at hz
        subst hz
        have h194 : ¬ c.toNat = 194 := by omega
        have t5 : ((((⟨#[35, 48, 44, 46, 59, 123, 125, 37, 45, 43, 194, 164]⟩ : ByteArray)[10]).toNat : Int) != ((⟨#[a, b, c, d]⟩ : ByteArray)[2]'(show 2 < 4 by decide)).toNat) = true := by change ((194 : Int) != c.toNat) = true; rw [bne_iff_ne]; omega
        go_wp2
        refine wp_scope_once 0 rfl ?_
        go_wp2
        go_quiet (fail)
        go_wp2
        go_quiet ((go_at_call 89; exact again_same2 (hT _).out))
        go_wp2
        go_loopg [12] 1 (fun k s12 wx => k = 1 ∧ s12 = .int .i64 1 ∧ Keep [] w wx)
        case atStart => exact ⟨rfl, rfl, HK.out.drewN _⟩
        case round =>
          obtain ⟨rfl, rfl, hk⟩ := hrel
          have HK2 := Lib.hid hk
          clear hk
          go_wp2
          go_quiet (fail)
          go_wp2
          refine wp_goto ?_
          refine ⟨rfl, ?_⟩
          go_wp2_with (go_at_call 134; refine (hCu _).out.mono ?_; rintro e w' ⟨rfl, rfl⟩)
          simp only [Exit.noGoto]
          go_wp2
          go_roundg 1
          case measure => omega
          case rel => exact .inr ⟨rfl, rfl, rfl, h164, h194, HK2.out.drewN _⟩
      · rw [if_neg h164] at hz
        subst hz
        go_wp2
        refine wp_scope_straight ?_
        go_wp2
        go_quiet (fail)
        go_wp2
        go_quiet ((go_at_call 89; exact again_same2 (hT _).out))
        go_wp2
        go_simp
        go_ret
        exact ⟨by rfl, HK.out.drewN _⟩
    · have HK := Lib.hid hk
      clear hk
      go_wp2
      go_simp
      go_ret
      exact ⟨by rfl, HK.out⟩


theorem hay_dec : ∀ p : Fin 11, (((Utf8.decode (⟨#[35, 48, 44, 46, 59, 123, 125, 37, 45, 43, 194, 164]⟩ : ByteArray) p.val).1 : Int) == 65533) = false ∧ (p.val + (Utf8.decode (⟨#[35, 48, 44, 46, 59, 123, 125, 37, 45, 43, 194, 164]⟩ : ByteArray) p.val).2 < 11 ∨ p.val + (Utf8.decode (⟨#[35, 48, 44, 46, 59, 123, 125, 37, 45, 43, 194, 164]⟩ : ByteArray) p.val).2 = 12) := by decide +kernel
set_option maxRecDepth 100000 in
set_option maxHeartbeats 1000000 in
theorem irune_err (w : World) :
    Calls Tryd.prog 127 #[.string (⟨#[35, 48, 44, 46, 59, 123, 125, 37, 45, 43, 194, 164]⟩ : ByteArray), .int .i32 65533] w fun e w' => e = .returned (.int .i64 (-1)) ∧ Keep [] w w' := by
  go_enter Tryd.func127, Tryd.ntmps127
  go_wp2
  go_loopw [] (fun wr => ∃ pos : Nat, (pos < 11 ∨ pos = 12) ∧ wr = w.alloc (.stringIter (⟨#[35, 48, 44, 46, 59, 123, 125, 37, 45, 43, 194, 164]⟩ : ByteArray) pos)) (fun wr => 12 - wr.iterPos w.heap.size)
  case atStart => exact ⟨0, .inl (by omega), rfl⟩
  case round =>
    obtain ⟨pos, hp, rfl⟩ := hrel
    have hdw := decode_wide (⟨#[35, 48, 44, 46, 59, 123, 125, 37, 45, 43, 194, 164]⟩ : ByteArray) pos
    by_cases hlt : pos < 11
    · have hnx := fun ty => next_any1 (P := Tryd.prog) w w.heap.size rfl (⟨#[35, 48, 44, 46, 59, 123, 125, 37, 45, 43, 194, 164]⟩ : ByteArray) pos ty (show pos < 12 by omega)
      obtain ⟨hd, hd2⟩ := hay_dec ⟨pos, hlt⟩
      simp only at hd hd2
      clear hp
      go_wp2
      go_roundw
      case rel => exact ⟨_, hd2, rfl⟩
      case measure => rw [iterPos1 _ _ rfl, iterPos1 _ _ rfl]; omega
    · obtain rfl : pos = 12 := by omega
      have hnx := fun ty => next_end1 (P := Tryd.prog) w w.heap.size rfl (⟨#[35, 48, 44, 46, 59, 123, 125, 37, 45, 43, 194, 164]⟩ : ByteArray) 12 ty (show ¬ 12 < 12 by omega)
      go_wp2
      go_ret
      exact ⟨rfl, (Keep.refl _ _).alloc _⟩
theorem valid_encode {r : Int} (hv : Lib.validRune r = true) (h : 128 ≤ r) : (∃ a b : UInt8, Utf8.encode r = ⟨#[a, b]⟩ ∧ 128 ≤ b.toNat ∧ b.toNat < 192 ∧ (r = 164 ↔ b.toNat = 164 ∧ a.toNat = 194)) ∨
    (∃ a b c : UInt8, Utf8.encode r = ⟨#[a, b, c]⟩ ∧ 128 ≤ c.toNat ∧ c.toNat < 192 ∧ b.toNat < 192 ∧ r ≠ 164) ∨ (∃ a b c d : UInt8, Utf8.encode r = ⟨#[a, b, c, d]⟩ ∧ 128 ≤ d.toNat ∧ d.toNat < 192 ∧ c.toNat < 192 ∧ r ≠ 164) := by
  have hv2 : Utf8.valid r = true := by rw [validRune_eq]; exact hv
  simp only [Lib.validRune, decide_eq_true_eq] at hv
  unfold Utf8.encode
  simp only [hv2, if_true]
  rw [if_neg (show ¬ r.toNat < 128 by omega)]
  by_cases h1 : r.toNat < 2048
  · rw [if_pos h1]
    refine .inl ⟨_, _, rfl, ?_⟩
    simp only [UInt8.toNat_ofNat']
    omega
  · rw [if_neg h1]
    by_cases h2 : r.toNat < 65536
    · rw [if_pos h2]
      refine .inr (.inl ⟨_, _, _, rfl, ?_⟩)
      simp only [UInt8.toNat_ofNat']
      omega
    · rw [if_neg h2]
      refine .inr (.inr ⟨_, _, _, _, rfl, ?_⟩)
      simp only [UInt8.toNat_ofNat']
      omega
theorem irune_any (r : Int) (hv : Lib.validRune r = true) (h : 128 ≤ r) (w : World) :
    Calls Tryd.prog 127 #[.string (⟨#[35, 48, 44, 46, 59, 123, 125, 37, 45, 43, 194, 164]⟩ : ByteArray), .int .i32 r] w fun e w' => e = .returned (.int .i64 (if r = 164 then 10 else -1)) ∧ Keep [] w w' := by
  by_cases h1 : r = 65533
  · subst h1; exact irune_err w
  · rcases valid_encode hv h with ⟨a, b, he, h2, h3, h4⟩ | ⟨a, b, c, he, h2, h3, h4, h5⟩ | ⟨a, b, c, d, he, h2, h3, h4, h5⟩
    · refine (irune2 r a b he h h1 hv h2 h3 w).mono fun e w' ⟨g1, g2⟩ => ⟨?_, g2⟩
      rw [g1]
      by_cases h6 : r = 164
      · rw [if_pos h6, if_pos (h4.1 h6)]
      · rw [if_neg h6, if_neg (fun hc => h6 (h4.2 hc))]
    · refine (irune3 r a b c he h h1 hv h2 h3 h4 w).mono fun e w' ⟨g1, g2⟩ => ⟨by rw [g1, if_neg h5], g2⟩
    · refine (irune4 r a b c d he h h1 hv h2 h3 h4 w).mono fun e w' ⟨g1, g2⟩ => ⟨by rw [g1, if_neg h5], g2⟩
set_option maxRecDepth 100000 in
/-- strings.ContainsRune on the special bytes. -/
theorem cont_any (r : Int) (hv : Lib.validRune r = true) (w : World) :
    Calls Tryd.prog 108 #[.string (⟨#[35, 48, 44, 46, 59, 123, 125, 37, 45, 43, 194, 164]⟩ : ByteArray), .int .i32 r] w fun e w' => e = .returned (.bool (specB r)) ∧ Keep [] w w' := by
  have h0 : 0 ≤ r := by simp only [Lib.validRune, decide_eq_true_eq] at hv; omega
  by_cases h1 : r < 128
  · exact cont_ascii r w h0 h1
  · have HI := fun W => Lib.hid (irune_any r hv (by omega) W)
    have hs : decide (0 ≤ (if r = 164 then (10 : Int) else -1)) = specB r := by
      unfold specB
      by_cases h2 : r = 164
      · subst h2; decide
      · rw [if_neg h2]
        rw [show decide ((0 : Int) ≤ -1) = false from rfl]
        symm
        simp only [Bool.or_eq_false_iff, beq_eq_false_iff_ne]
        omega
    generalize (if r = 164 then (10 : Int) else -1) = z at *
    clear h0 h1 hv
    go_enter Tryd.func108, Tryd.ntmps108
    go_wp2_with (go_at_call 127; refine (HI _).out.mono ?_; rintro e w' ⟨rfl, hk⟩)
    go_ret
    exact ⟨by rw [← hs]; rfl, hk⟩

end Go.Proofs.YtkkglaglnfebjaaDoor
