/- Walks: dec.Neg, Round where nothing is to be cut, made where it is too long, Sign, both, level, Compare of equals. -/
import Derived.Test.YtkkglaglnfebjaaDoorWRound
namespace Go.Proofs.YtkkglaglnfebjaaDoor
open Go.RowKit Go.IntWalk

/-- What made answers, whether it fits or not. -/
def madeD (l : List UInt8) : ByteArray := if (canon l).length ≤ 400 then ⟨(canon l).toArray⟩ else ⟨#[]⟩
def madeS (l : List UInt8) (sc : Int) : Int := if (canon l).length ≤ 400 then sc else 0
def madeE (l : List UInt8) : Int := if (canon l).length ≤ 400 then 0 else 3
set_option maxRecDepth 100000 in
set_option maxHeartbeats 400000 in
theorem made_both (w : World) (s : ByteArray) (sc : Int) (hs : s.size ≤ 100000) (h1 : sc ≤ 400) :
    Calls Tryd.prog 73 #[.bool false, .string s, .int .i64 sc] w fun e w' => e = .returned (.tuple #[.agg #[.bool false, .string (madeD s.data.toList), .int .i64 (madeS s.data.toList sc)], .int .i64 (madeE s.data.toList)]) ∧ Keep [] w w' := by
  by_cases hl : (canon s.data.toList).length ≤ 400
  · unfold madeD madeS madeE
    rw [if_pos hl, if_pos hl, if_pos hl]
    exact made_any w s sc hl h1
  · unfold madeD madeS madeE
    rw [if_neg hl, if_neg hl, if_neg hl]
    have HT0 : ∀ W, Calls Tryd.prog 33 #[.string s, .string ⟨#[48]⟩] W fun e w' => e = .returned (.string ⟨(s.data.toList.dropWhile (· == 48)).toArray⟩) ∧ W = w' := fun W => (Tryd.strings_TrimLeft_one s 48 (by decide) W).mono fun e w' ⟨h1, h2⟩ => ⟨h1, h2.symm⟩
    have hne : s.data.toList.dropWhile (· == 48) ≠ [] := by
      intro e
      apply hl
      unfold canon
      rw [if_pos e]
      decide
    unfold canon at hl
    rw [if_neg hne] at hl
    obtain ⟨T, hT⟩ : ∃ T : ByteArray, T = ⟨(s.data.toList.dropWhile (· == 48)).toArray⟩ := ⟨_, rfl⟩
    rw [← hT] at HT0
    have hemp := toList_ne hT hne
    have hsz : ¬ T.size ≤ 400 := by rw [hT]; exact hl
    have hsz2 : T.size ≤ 100000 := by
      rw [hT]
      have := (List.dropWhile_suffix (fun b : UInt8 => b == 48) (l := s.data.toList)).length_le
      rw [txt_len] at this
      exact Nat.le_trans this hs
    have HT := fun W => Lib.hid (HT0 W)
    clear hT HT0 hne hl
    go_enter Tryd.func73, Tryd.ntmps73
    go_wp2_with (go_at_call 33; refine (HT _).out.mono ?_; rintro e w2 ⟨rfl, rfl⟩)
    exact bodyPost_ret (v := .tuple #[.agg #[.bool false, .string ⟨#[]⟩, .int .i64 0], .int .i64 3]) (by simp [results, Tryd.results73, go_sem]) rfl ⟨rfl, (Keep.refl _ _).alloc _⟩

set_option maxRecDepth 100000 in
set_option maxHeartbeats 1000000 in
theorem round_id (w : World) (s : ByteArray) (sc k : Int) (hk0 : 0 ≤ k) (hk4 : k ≤ 400) (hle : sc ≤ k) (hs0 : 0 ≤ sc) (h : decB false s sc = true) (hs4 : s.size ≤ 400) :
    Calls Tryd.prog 32 #[decV false s sc, .int .i64 k, .int .i64 1] w fun e w' => e = .returned (.tuple #[.agg #[.bool false, .string s, .int .i64 sc], .int .i64 0]) ∧ Keep [] w w' := by
  have HS := fun W => Lib.hid (scaled_any W false s sc (by omega) h k hk0 hk4)
  have HD0 := Lib.hid ((Blk.new w 51 #[.bool false, .string s, .int .i64 sc]).alloc (.cells #[.bool false, .string ⟨#[]⟩, .int .i64 0] 51))
  have HK0 := Lib.hid (((Keep.refl [] w).alloc (.cells #[.bool false, .string s, .int .i64 sc] 51)).alloc (.cells #[.bool false, .string ⟨#[]⟩, .int .i64 0] 51))
  have HN := Lib.hid (Blk.new' (w.alloc (.cells #[.bool false, .string s, .int .i64 sc] 51)) 51 #[.bool false, .string ⟨#[]⟩, .int .i64 0] (w.heap.size + 1) (by simp))
  have hw : IntKind.i64.wrap (sc - k) = sc - k := by simp [IntKind.wrap, IntKind.bits, IntKind.signed]; omega
  have hc : sc - k ≤ 0 := by omega
  unfold decV at *
  clear h
  go_enter Tryd.func32, Tryd.ntmps32
  go_wp2_with (go_at_call 70; refine (HS _).out.mono ?_; rintro e w1 ⟨rfl, hk⟩; have HD1 := Lib.hid (DecAt.keep HD0.out hk (by simp)); have HN1 := Lib.hid (HN.out.keep hk (by simp)); have HK1 := Lib.hid (HK0.out.nil hk); clear hk; obtain ⟨d0, d1, d2, df⟩ := DecAt.all HD1.out; obtain ⟨n0, n1, n2, nf⟩ := DecAt.all HN1.out)
  obtain ⟨c0, c1, c2, _⟩ := DecAt.all (neg := false) (s := s) (sc := sc) (Blk.set_ (Blk.set_ (Blk.set_ HN1.out 0 (.bool false)) 1 (.string s)) 2 (.int .i64 sc))
  refine bodyPost_ret (v := .tuple #[.agg #[.bool false, .string s, .int .i64 sc], .int .i64 0]) (by generalize World.setCell _ _ _ = W at c0 c1 c2 ⊢; simp [results, Tryd.results32, go_sem, c0, c1, c2]) rfl ⟨rfl, ?_⟩
  repeat (first | exact HK1.out | refine Keep.setCell ?_ (.inr (Nat.le_succ _)) _)

set_option maxRecDepth 100000 in
set_option maxHeartbeats 1000000 in
/-- Neg of a decimal below 0. -/
theorem neg_any (w : World) (s : ByteArray) (sc : Int) (h : decB true s sc = true) (hs4 : s.size ≤ 400) :
    Calls Tryd.prog 31 #[decV true s sc] w fun e w' => e = .returned (.tuple #[.agg #[.bool false, .string s, .int .i64 sc], .int .i64 0]) ∧ Keep [] w w' := by
  have HC := fun W => Lib.hid (dcheck_any W true s sc (by omega))
  rw [h] at HC
  change ∀ W, Hid (Calls _ _ _ _ fun e w' => e = .returned (.int .i64 0) ∧ Keep [] W w') at HC
  have HD0 := Lib.hid ((Blk.new w 51 #[.bool true, .string s, .int .i64 sc]).alloc (.cells #[.bool false, .string ⟨#[]⟩, .int .i64 0] 51))
  have HK0 := Lib.hid (((Keep.refl [] w).alloc (.cells #[.bool true, .string s, .int .i64 sc] 51)).alloc (.cells #[.bool false, .string ⟨#[]⟩, .int .i64 0] 51))
  have HN := Lib.hid (Blk.new' (w.alloc (.cells #[.bool true, .string s, .int .i64 sc] 51)) 51 #[.bool false, .string ⟨#[]⟩, .int .i64 0] (w.heap.size + 1) (by simp))
  unfold decV at *
  clear h
  go_enter Tryd.func31, Tryd.ntmps31
  go_wp2_with (go_at_call 62; refine (HC _).out.mono ?_; rintro e w1 ⟨rfl, hk⟩; have HD1 := Lib.hid (DecAt.keep HD0.out hk (by simp)); have HN1 := Lib.hid (HN.out.keep hk (by simp)); have HK1 := Lib.hid (HK0.out.nil hk); clear hk; obtain ⟨d0, d1, d2, df⟩ := DecAt.all HD1.out; obtain ⟨n0, n1, n2, nf⟩ := DecAt.all HN1.out)
  obtain ⟨c0, c1, c2, _⟩ := DecAt.all (neg := false) (s := s) (sc := sc) (Blk.set_ (Blk.set_ (Blk.set_ (HN1.out.far (p := ⟨w.heap.size, 0, none⟩) (by simp) (.bool false)) 0 (.bool false)) 1 (.string s)) 2 (.int .i64 sc))
  refine bodyPost_ret (v := .tuple #[.agg #[.bool false, .string s, .int .i64 sc], .int .i64 0]) (by generalize World.setCell _ _ _ = W at c0 c1 c2 ⊢; simp [results, Tryd.results31, go_sem, c0, c1, c2]) rfl ⟨rfl, ?_⟩
  repeat (first | exact HK1.out | refine Keep.setCell ?_ (.inr (Nat.le_succ _)) _ | refine Keep.setCell ?_ (.inr (Nat.le_refl _)) _)

/-- Is it 0? -/
def signB (s : ByteArray) : Int := if s.data.toList = [48] then 0 else 1
set_option maxRecDepth 100000 in
set_option maxHeartbeats 1000000 in
theorem sign_any (w : World) (s : ByteArray) (sc : Int) (h : decB false s sc = true) (hs4 : s.size ≤ 400) :
    Calls Tryd.prog 85 #[decV false s sc] w fun e w' => e = .returned (.int .i64 (signB s)) ∧ Keep [] w w' := by
  have HC := fun W => Lib.hid (dcheck_any W false s sc (by omega))
  rw [h] at HC
  change ∀ W, Hid (Calls _ _ _ _ fun e w' => e = .returned (.int .i64 0) ∧ Keep [] W w') at HC
  have HD0 := Lib.hid (Blk.new w 51 #[.bool false, .string s, .int .i64 sc])
  have HK0 := Lib.hid ((Keep.refl [] w).alloc (.cells #[.bool false, .string s, .int .i64 sc] 51))
  unfold decV at *
  clear h
  by_cases hz : s.data.toList = [48]
  · have hz2 : (s.toList == [48]) = true := by rw [ByteArray.toList_eq, hz]; rfl
    have HSg : Hid (signB s = 0) := if_pos hz
    clear hz
    go_enter Tryd.func85, Tryd.ntmps85
    go_wp2_with (go_at_call 62; refine (HC _).out.mono ?_; rintro e w1 ⟨rfl, hk⟩; have HD1 := Lib.hid (DecAt.keep HD0.out hk (by simp)); have HK1 := Lib.hid (HK0.out.nil hk); clear hk; obtain ⟨d0, d1, d2, df⟩ := DecAt.all HD1.out)
    go_ret
    exact ⟨by rw [HSg.out]; rfl, HK1.out⟩
  · have hz2 : (s.toList == [48]) = false := by
      rw [ByteArray.toList_eq, beq_eq_false_iff_ne]
      exact hz
    have HSg : Hid (signB s = 1) := if_neg hz
    clear hz
    go_enter Tryd.func85, Tryd.ntmps85
    go_wp2_with (go_at_call 62; refine (HC _).out.mono ?_; rintro e w1 ⟨rfl, hk⟩; have HD1 := Lib.hid (DecAt.keep HD0.out hk (by simp)); have HK1 := Lib.hid (HK0.out.nil hk); clear hk; obtain ⟨d0, d1, d2, df⟩ := DecAt.all HD1.out)
    go_ret
    exact ⟨by rw [HSg.out]; rfl, HK1.out⟩
set_option maxRecDepth 100000 in
set_option maxHeartbeats 1000000 in
theorem both_any (w : World) (s t : ByteArray) (sc tc : Int) (h1 : decB false s sc = true) (h2 : decB false t tc = true) (hs4 : s.size ≤ 400) (ht4 : t.size ≤ 400) :
    Calls Tryd.prog 82 #[decV false s sc, decV false t tc] w fun e w' => e = .returned (.int .i64 0) ∧ Keep [] w w' := by
  have HC := fun W => Lib.hid (dcheck_any W false s sc (by omega))
  rw [h1] at HC
  change ∀ W, Hid (Calls _ _ _ _ fun e w' => e = .returned (.int .i64 0) ∧ Keep [] W w') at HC
  have HC2 := fun W => Lib.hid (dcheck_any W false t tc (by omega))
  rw [h2] at HC2
  change ∀ W, Hid (Calls _ _ _ _ fun e w' => e = .returned (.int .i64 0) ∧ Keep [] W w') at HC2
  have HD0 := Lib.hid (Blk.new' (w.alloc (.cells #[.bool false, .string s, .int .i64 sc] 51)) 51 #[.bool false, .string t, .int .i64 tc] (w.heap.size + 1) (by simp))
  have HK0 := Lib.hid (((Keep.refl [] w).alloc (.cells #[.bool false, .string s, .int .i64 sc] 51)).alloc (.cells #[.bool false, .string t, .int .i64 tc] 51))
  unfold decV at *
  clear h1 h2
  go_enter Tryd.func82, Tryd.ntmps82
  go_wp2_with (first
    | (have hz := HK1; clear hz; go_at_call 62; refine (HC2 _).out.mono ?_; rintro e w2 ⟨rfl, hk⟩; have HK2 := Lib.hid (HK1.out.nil hk); clear hk)
    | (go_at_call 62; refine (HC _).out.mono ?_; rintro e w1 ⟨rfl, hk⟩; have HD1 := Lib.hid (DecAt.keep HD0.out hk (by simp)); have HK1 := Lib.hid (HK0.out.nil hk); clear hk; obtain ⟨d0, d1, d2, df⟩ := DecAt.all HD1.out))
  go_ret
  exact ⟨rfl, HK2.out⟩
end Go.Proofs.YtkkglaglnfebjaaDoor
