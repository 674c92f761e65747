/- Walks: ref03.Right, at, Less. Walks: ref03.Plus, Row. Walks: ref03.Made. Walks: ref03.Round (half to even). Walks: ref03.Print. -/
import Derived.Test.YtkkglaglnfebjaaDoorWDec
import Derived.Test.YtkkglaglnfebjaaDoorWDigits
import Derived.Test.YtkkglaglnfebjaaDoorWRound
namespace Go.Proofs.YtkkglaglnfebjaaDoor
open Go.RowKit Go.IntWalk

set_option maxRecDepth 100000 in
set_option maxHeartbeats 400000 in
theorem rdright_any (w : World) (neg : Bool) (s : ByteArray) (sc : Int) (hs : s.size ≤ 9223372036854775800) :
    Calls Tryd.prog 29 #[decV neg s sc] w fun e w' => e = .returned (.bool (decB neg s sc)) ∧ Keep [] w w' := by
  have HK := Lib.hid ((Keep.refl [] w).alloc (.cells #[.bool neg, .string s, .int .i64 sc] 51))
  unfold decV
  by_cases cc : ¬ (1 ≤ s.size ∧ s.size ≤ 400 ∧ 0 ≤ sc ∧ sc ≤ 400)
  · have HE := Lib.hid (decB_no (neg := neg) (s := s) (sc := sc) cc)
    rw [HE.out]
    go_enter Tryd.func29, Tryd.ntmps29
    by_cases c1 : s.size < 1
    · go_wp2
      go_ret
      exact ⟨rfl, HK.out⟩
    by_cases c2 : 400 < s.size
    · go_wp2
      go_ret
      exact ⟨rfl, HK.out⟩
    by_cases c3 : sc < 0
    · go_wp2
      go_ret
      exact ⟨rfl, HK.out⟩
    have c4 : 400 < sc := by omega
    go_wp2
    go_ret
    exact ⟨rfl, HK.out⟩
  have cc : 1 ≤ s.size ∧ s.size ≤ 400 ∧ 0 ≤ sc ∧ sc ≤ 400 := Decidable.not_not.1 cc
  have HY := Lib.hid (decB_yes (neg := neg) (s := s) (sc := sc) cc)
  obtain ⟨c1, c2, c3, c4⟩ := cc
  have h0 : 0 < s.size := by omega
  have hg0 : s.get! 0 = s[0] := get!_eq s 0 h0
  have hne : s.toList.isEmpty = false := by
    rw [ByteArray.toList_eq]
    cases hl : s.data.toList with
    | nil =>
      have h1 : s.data.toList.length = 0 := by rw [hl]; rfl
      rw [show s.data.toList.length = s.size by simp] at h1
      omega
    | cons a l => rfl
  have HNE := Lib.hid hne
  have HG := Lib.hid hg0
  clear hne hg0
  have e1 : ¬ s.size < 1 := by omega
  have e2 : ¬ 400 < s.size := by omega
  have e3 : ¬ sc < 0 := by omega
  have e4 : ¬ 400 < sc := by omega
  go_enter Tryd.func29, Tryd.ntmps29
  go_wp2
  go_loop [4] (fun i => ∃ k : Nat, k ≤ s.size ∧ i = .int .i64 k ∧ ∀ j, j < k → digB (s.get! j).toNat = true) (fun i => s.size - (intOf i).toNat)
  case atStart => exact ⟨0, Nat.zero_le _, rfl, fun j h => absurd h (by omega)⟩
  case round =>
    obtain ⟨k, hk, rfl, hall⟩ := hrel
    have HA := Lib.hid hall
    clear hall
    by_cases hlt : k < s.size
    · have hw : IntKind.i64.wrap ((k : Int) + 1) = (k : Int) + 1 := by simp [IntKind.wrap, IntKind.bits, IntKind.signed]; omega
      cases hd : digB s[k].toNat
      · have HF : Hid (decB neg s sc = false) := by
          unfold Hid
          rw [HY.out, all_upto s k hlt hd, Bool.and_false]
        have hd2 : (s[k].toNat : Int) < 48 ∨ (57 < (s[k].toNat : Int)) := by
          unfold digB at hd
          have := of_decide_eq_false hd
          omega
        clear hd
        rcases hd2 with d1 | d1
        · go_wp2
          go_ret
          exact ⟨by rw [HF.out]; rfl, HK.out⟩
        · have d2 : ¬ (s[k].toNat : Int) < 48 := by omega
          go_wp2
          go_ret
          exact ⟨by rw [HF.out]; rfl, HK.out⟩
      · have HF : Hid (∀ j, j < k + 1 → digB (s.get! j).toNat = true) := fun j hj => by
          by_cases h : j < k
          · exact HA.out j h
          · have : j = k := by omega
            subst this
            rw [get!_eq s j hlt]; exact hd
        have hd2 : 48 ≤ (s[k].toNat : Int) ∧ (s[k].toNat : Int) ≤ 57 := by
          unfold digB at hd
          exact of_decide_eq_true hd
        obtain ⟨d1, d2⟩ := hd2
        go_wp2
        go_round
        case rel => exact ⟨k + 1, by omega, by go_num, HF.out⟩
        case measure => simp [intOf]; omega
    · have hk2 : k = s.size := by omega
      subst hk2
      have HF : Hid (decB neg s sc = !(decide (s[0].toNat = 48) && (decide (1 < s.size) || neg))) := by
        unfold Hid
        rw [HY.out, all_end s HA.out, HNE.out, HG.out, Bool.not_false, Bool.and_true]
      clear HY HNE HA HG
      by_cases c6 : (s[0].toNat : Int) = 48
      · have HF2 : Hid (decB neg s sc = !(decide (1 < s.size) || neg)) := by
          unfold Hid
          rw [HF.out, decide_eq_true (show s[0].toNat = 48 by omega), Bool.true_and]
        by_cases c7 : 1 < s.size
        · go_wp2
          go_ret
          exact ⟨by rw [HF2.out, decide_eq_true c7]; rfl, HK.out⟩
        · have key : (!decide (1 < (s.size : Int)) && !neg) = !(decide (1 < s.size) || neg) := by
            rw [decide_eq_false c7, decide_eq_false (by omega)]
            cases neg <;> rfl
          have HF3 := Lib.hid (HF2.out.trans key.symm)
          clear key
          go_wp2
          go_ret
          exact ⟨by rw [HF3.out]; rfl, HK.out⟩
      · go_wp2
        go_ret
        exact ⟨by rw [HF.out, decide_eq_false (show ¬ s[0].toNat = 48 by omega), Bool.false_and]; rfl, HK.out⟩

/-- A slice of whole numbers that reads. -/
def RdI (w : World) (v : Value) (l : List Int) : Prop :=
  ∃ A cap, v = .slice A l.length cap ∧ (l ≠ [] → ∃ g, A = some ⟨g, 0, none⟩ ∧ g < w.heap.size ∧ ∀ i x, l[i]? = some x → w.cell? ⟨g, i, none⟩ = some (.int .i64 x))
theorem RdI.keep_nil {w w' : World} {v : Value} {l : List Int} (h : RdI w v l) (hk : Keep [] w w') : RdI w' v l := by
  obtain ⟨A, cap, rfl, h3⟩ := h
  refine ⟨A, cap, rfl, fun hl => ?_⟩
  obtain ⟨b, rfl, hlt, hc⟩ := h3 hl
  exact ⟨b, rfl, Nat.lt_of_lt_of_le hlt hk.size, fun j u hu => (hk.cell (p := ⟨b, j, none⟩) hlt (by simp)).trans (hc j u hu)⟩
theorem RdI.nil (w : World) : RdI w (.slice none 0 0) [] := ⟨none, 0, rfl, fun h => absurd rfl h⟩
theorem OwnI.reads {w : World} {B : Nat} {v : Value} {l : List Int} (h : OwnI w B v l) : RdI w v l := by
  obtain ⟨A, cap, rfl, hc⟩ := h.form
  exact ⟨A, cap, rfl, fun hl => by
    obtain ⟨g, h1, _, h3, h4⟩ := hc hl
    exact ⟨g, h1, h3, h4⟩⟩
theorem atL_get (l : List Int) (i : Nat) (h : i < l.length) : l[i]? = some (atL l i) := by
  unfold atL
  rw [List.getD_eq_getElem?_getD, List.getElem?_eq_getElem h]; rfl
set_option maxRecDepth 100000 in
theorem at03_any (w : World) (v : Value) (l : List Int) (i : Nat) (hv : RdI w v l) :
    Calls Tryd.prog 102 #[v, .int .i64 i] w fun e w' => e = .returned (.int .i64 (atL l i)) ∧ w = w' := by
  obtain ⟨A, cap, rfl, hc⟩ := hv
  by_cases hi : i < l.length
  · obtain ⟨g, rfl, hg, hcell⟩ := hc (by intro e; rw [e] at hi; simp at hi)
    have h1 := hcell i _ (atL_get l i hi)
    clear hc hcell
    generalize atL l i = x at *
    go_enter Tryd.func102, Tryd.ntmps102
    go_wp2
    go_ret
    exact ⟨rfl, rfl⟩
  · rw [atL_out l i (by omega)]
    clear hc
    go_enter Tryd.func102, Tryd.ntmps102
    go_wp2
    go_ret
    exact ⟨rfl, rfl⟩
set_option maxRecDepth 100000 in
set_option maxHeartbeats 400000 in
theorem less_any (w : World) (v u : Value) (a b : List Int) (hv : RdI w v a) (hu : RdI w u b) (ha : a.length ≤ 1000000) (hb : b.length ≤ 1000000) :
    Calls Tryd.prog 103 #[v, u] w fun e w' => e = .returned (.bool (lessF (max a.length b.length) a b)) ∧ w = w' := by
  have HA : ∀ i : Nat, Hid (Calls Tryd.prog 102 #[v, .int .i64 i] w fun e w' => e = .returned (.int .i64 (atL a i)) ∧ w = w') := fun i => at03_any w v a i hv
  have HB : ∀ i : Nat, Hid (Calls Tryd.prog 102 #[u, .int .i64 i] w fun e w' => e = .returned (.int .i64 (atL b i)) ∧ w = w') := fun i => at03_any w u b i hu
  obtain ⟨A1, k1, rfl, -⟩ := hv
  obtain ⟨A2, k2, rfl, -⟩ := hu
  obtain ⟨m, hm⟩ : ∃ m, max a.length b.length = m := ⟨_, rfl⟩
  have hm2 : max (a.length : Int) b.length = m := by omega
  have hw : IntKind.i64.wrap ((m : Int) - 1) = (m : Int) - 1 := by simp [IntKind.wrap, IntKind.bits, IntKind.signed]; omega
  rw [hm]
  obtain ⟨R, hR⟩ : ∃ R, R = lessF m a b := ⟨_, rfl⟩
  have HR := Lib.hid hR
  have HM : Hid (m ≤ 1000000) := by unfold Hid; omega
  rw [← hR]
  clear hR ha hb hm
  go_enter Tryd.func103, Tryd.ntmps103
  go_wp2
  go_loopg [5] m (fun k s5 wx => s5 = .int .i64 ((k : Int) - 1) ∧ k ≤ m ∧ R = lessF k a b ∧ wx = w)
  case atStart => exact ⟨rfl, Nat.le_refl _, HR.out, rfl⟩
  case round =>
    obtain ⟨rfl, hk, hr, rfl⟩ := hrel
    have HR2 := Lib.hid hr
    clear hr HR
    rcases gk with _ | i
    · obtain rfl : R = false := HR2.out
      go_wp2
      go_ret
      exact ⟨rfl, rfl⟩
    · have hi : ((i + 1 : Nat) : Int) - 1 = i := by omega
      have hw2 : IntKind.i64.wrap ((i : Int) - 1) = (i : Int) - 1 := by have := HM.out; simp [IntKind.wrap, IntKind.bits, IntKind.signed]; omega
      rw [hi]
      have HA1 := HA i
      have HB1 := HB i
      have HR3 : Hid (R = if atL a i ≠ atL b i then decide (atL a i < atL b i) else lessF i a b) := HR2.out
      generalize atL a i = x at *
      generalize atL b i = y at *
      clear HA HB HR2
      by_cases hxy : x = y
      · subst hxy
        have HR4 : Hid (R = lessF i a b) := by unfold Hid; rw [HR3.out, if_neg (by simp)]
        clear HR3
        go_wp2_with (first | (go_at_call_of 102 (Value.slice A1 a.length k1); refine HA1.out.mono ?_; rintro e w1 ⟨rfl, rfl⟩) | (go_at_call_of 102 (Value.slice A2 b.length k2); refine HB1.out.mono ?_; rintro e w1 ⟨rfl, rfl⟩))
        go_roundg i
        case measure => omega
        case rel => exact ⟨rfl, by omega, HR4.out, rfl⟩
      · have HR4 : Hid (R = decide (x < y)) := by unfold Hid; rw [HR3.out, if_pos hxy]
        clear HR3
        go_wp2_with (first | (go_at_call_of 102 (Value.slice A1 a.length k1); refine HA1.out.mono ?_; rintro e w1 ⟨rfl, rfl⟩) | (go_at_call_of 102 (Value.slice A2 b.length k2); refine HB1.out.mono ?_; rintro e w1 ⟨rfl, rfl⟩))
        go_ret
        exact ⟨by rw [HR4.out]; rfl, rfl⟩
end Go.Proofs.YtkkglaglnfebjaaDoor

namespace Go.Proofs.YtkkglaglnfebjaaDoor
open Go.RowKit Go.IntWalk

theorem Keep.own {bs : List Nat} {a w w' : World} {v : Value} {l : List Int} {B : Nat} (h : Keep bs a w) (ho : OwnI w B v l) (hk : Keep v.ownBlock.toList w w') (hB : a.heap.size ≤ B) : Keep bs a w' :=
  h.trans hk fun x hx => .inr (Nat.le_trans hB (ho.lt x hx))
set_option maxRecDepth 100000 in
set_option maxHeartbeats 2000000 in
theorem plus03_any (w : World) (v u : Value) (a b : List Int) (hv : RdI w v a) (hu : RdI w u b) (oa : okR a) (ob : okR b) (ha : a.length ≤ 1000) (hb : b.length ≤ 1000) :
    Calls Tryd.prog 104 #[v, u] w fun e w' => ∃ v', e = .returned v' ∧ OwnI w' w.heap.size v' (plusQ a b 0) ∧ Keep [] w w' := by
  have HA : ∀ (W : World) (i : Nat), Keep [] w W → Hid (Calls Tryd.prog 102 #[v, .int .i64 i] W fun e w' => e = .returned (.int .i64 (atL a i)) ∧ W = w') := fun W i hk => at03_any W v a i (hv.keep_nil hk)
  have HB : ∀ (W : World) (i : Nat), Keep [] w W → Hid (Calls Tryd.prog 102 #[u, .int .i64 i] W fun e w' => e = .returned (.int .i64 (atL b i)) ∧ W = w') := fun W i hk => at03_any W u b i (hu.keep_nil hk)
  obtain ⟨A1, k1, rfl, -⟩ := hv
  obtain ⟨A2, k2, rfl, -⟩ := hu
  obtain ⟨M, hM⟩ : ∃ M, M = max a.length b.length := ⟨_, rfl⟩
  have hMa : a.length ≤ M := by omega
  have hMb : b.length ≤ M := by omega
  have hM4 : M ≤ 1000 := by omega
  have HOa := Lib.hid oa
  have HOb := Lib.hid ob
  clear oa ob hM ha hb
  go_enter Tryd.func104, Tryd.ntmps104
  go_wp2
  go_loopg [5, 6, 7] (M + 2) (fun k s5 s6 s7 wx => ∃ (i : Nat) (c : Int) (out : List Int), s6 = .int .i64 c ∧ s7 = .int .i64 i ∧ i + k = M + 2 ∧ (i ≤ M ∨ c = 0) ∧ 0 ≤ c ∧ c ≤ 1 ∧ out.length = i ∧ OwnI wx w.heap.size s5 out ∧ out ++ plusQ (a.drop i) (b.drop i) c = plusQ a b 0 ∧ Keep [] w wx)
  case atStart => exact ⟨0, 0, [], rfl, rfl, by omega, .inr rfl, by omega, by omega, rfl, World.ownsRow_nil _ _ _ _, rfl, Keep.refl _ _⟩
  case round =>
    obtain ⟨i, c, out, rfl, rfl, hik, him, hc0, hc1, hout, hO, hT, hK⟩ := hrel
    have HO := Lib.hid hO
    have HK := Lib.hid hK
    have HT := Lib.hid hT
    clear hO hT hK
    by_cases hgo : i < a.length ∨ i < b.length ∨ 0 < c
    · have HP := Lib.hid (plusQ_go a b i c hc0 (by omega) hgo)
      have hiM : i ≤ M := by omega
      obtain ⟨k, rfl⟩ : ∃ k, gk = k + 1 := ⟨gk - 1, by omega⟩
      have HA1 := HA wr i HK.out
      have HB1 := HB wr i HK.out
      have hx := atL_ok a HOa.out i
      have hy := atL_ok b HOb.out i
      have hz : (i + 1 ≤ M ∨ (atL a i + atL b i + c) / 10 = 0) := by
        by_cases h : i < M
        · exact .inl (by omega)
        · rw [atL_out a i (by omega), atL_out b i (by omega)]
          exact .inr (by omega)
      generalize atL a i = x at *
      generalize atL b i = y at *
      have w1 : IntKind.i64.wrap (x + y) = x + y := by simp [IntKind.wrap, IntKind.bits, IntKind.signed]; omega
      have w2 : IntKind.i64.wrap (x + y + c) = x + y + c := by simp [IntKind.wrap, IntKind.bits, IntKind.signed]; omega
      obtain ⟨n, hn⟩ : ∃ n, x + y + c = n := ⟨_, rfl⟩
      rw [hn] at w2 HP hz
      have hn0 : 0 ≤ n ∧ n ≤ 19 := by omega
      have d1 : n.tdiv 10 = n / 10 := Int.tdiv_eq_ediv_of_nonneg hn0.1
      have d2 : n.tmod 10 = n % 10 := Int.tmod_eq_emod_of_nonneg hn0.1
      have w3 : IntKind.i64.wrap (n / 10) = n / 10 := by simp [IntKind.wrap, IntKind.bits, IntKind.signed]; omega
      have w4 : IntKind.i64.wrap (n % 10) = n % 10 := by simp [IntKind.wrap, IntKind.bits, IntKind.signed]; omega
      have w5 : IntKind.i64.wrap ((i : Int) + 1) = (i : Int) + 1 := by simp [IntKind.wrap, IntKind.bits, IntKind.signed]; omega
      have HN := Lib.hid hn0
      have HZ := Lib.hid hz
      have HX := Lib.hid (And.intro hx hy)
      have hB0 : w.heap.size ≤ wr.heap.size := HK.out.size
      clear hx hy hz hn0
      refine Or.elim (Decidable.em (i < a.length)) (fun c1 => ?_) (fun c1 => Or.elim (Decidable.em (i < b.length)) (fun c2 => ?_) (fun c2 => ?_))
      rotate_left
      rotate_left
      have c3 : 0 < c := by omega
      rotate_left
      all_goals
        clear hgo
        go_upto_region 7 with (first | (go_at_call_of 102 (Value.slice A1 a.length k1); refine HA1.out.mono ?_; rintro e w1 ⟨rfl, rfl⟩) | (go_at_call_of 102 (Value.slice A2 b.length k2); refine HB1.out.mono ?_; rintro e w1 ⟨rfl, rfl⟩))
        go_wp2_with (at_builtin; refine wpList_append_int rfl _ _ rfl rfl HO.out _ rfl (n % 10) rfl (by omega) hB0 ?_; intro v' w3' h3 k3; have HO3 := Lib.hid h3; have HK3 := Lib.hid (HK.out.own HO.out k3 (Nat.le_refl _)); clear h3 k3)
        go_roundg k
        case measure => omega
        case rel =>
          have h1 := HN.out
          have h2 := HZ.out
          exact ⟨i + 1, n / 10, out ++ [n % 10], rfl, by go_num, by omega, h2, by omega, by omega, by rw [List.length_append, hout]; rfl, HO3.out, by rw [← HT.out, HP.out]; simp, HK3.out⟩
    · have HP := Lib.hid (plusQ_stop a b i c (by omega) (by omega) (by omega))
      have c1 : ¬ i < a.length := fun h => hgo (.inl h)
      have c2 : ¬ i < b.length := fun h => hgo (.inr (.inl h))
      have c3 : ¬ 0 < c := fun h => hgo (.inr (.inr h))
      clear hgo
      go_wp2
      go_ret
      exact ⟨_, rfl, by rw [← HT.out, HP.out, List.append_nil]; exact HO.out, HK.out⟩
set_option maxRecDepth 100000 in
set_option maxHeartbeats 2000000 in
/-- Row at a decimal's own scale. -/
theorem row_any (w : World) (neg : Bool) (s : ByteArray) (sc : Int) (hs : s.size ≤ 1000) (ho : okT s.data.toList) :
    Calls Tryd.prog 66 #[decV neg s sc, .int .i64 sc] w fun e w' => ∃ v', e = .returned v' ∧ OwnI w' w.heap.size v' (rowOf s.data.toList) ∧ Keep [] w w' := by
  have HD0 := Lib.hid (Blk.new w 51 #[.bool neg, .string s, .int .i64 sc])
  have HK0 := Lib.hid ((Keep.refl [] w).alloc (.cells #[.bool neg, .string s, .int .i64 sc] 51))
  have HS : Hid (∀ i (h : i < s.size), 48 ≤ s[i].toNat ∧ s[i].toNat ≤ 57) := fun i h => ho s[i] (by simp [ByteArray.getElem_eq_getElem_data])
  have hw : IntKind.i64.wrap ((s.size : Int) - 1) = (s.size : Int) - 1 := by simp [IntKind.wrap, IntKind.bits, IntKind.signed]; omega
  unfold decV
  clear ho
  go_enter Tryd.func66, Tryd.ntmps66
  go_wp2
  go_loopg [5, 6] 0 (fun _ s5 s6 wx => s5 = .slice none 0 0 ∧ s6 = .int .i64 sc ∧ wx = w.alloc (.cells #[.bool neg, .string s, .int .i64 sc] 51))
  case atStart => exact ⟨rfl, rfl, rfl⟩
  case round =>
    obtain ⟨rfl, rfl, rfl⟩ := hrel
    have hlt : ¬ sc < sc := Int.lt_irrefl _
    go_wp2
    go_loopg [5, 7] s.size (fun k s5 s7 wx => s7 = .int .i64 ((k : Int) - 1) ∧ k ≤ s.size ∧ OwnI wx w.heap.size s5 ((rowOf s.data.toList).take (s.size - k)) ∧ Blk wx w.heap.size 51 #[.bool neg, .string s, .int .i64 sc] ∧ Keep [] w wx)
    case atStart => exact ⟨rfl, Nat.le_refl _, by rw [Nat.sub_self]; exact World.ownsRow_nil _ _ _ _, HD0.out, HK0.out⟩
    case round =>
      obtain ⟨rfl, hk, hO, hD, hK⟩ := hrel
      have HO := Lib.hid hO
      have HD := Lib.hid hD
      have HK := Lib.hid hK
      clear hO hD hK HD0 HK0
      rcases gk with _ | m
      · go_wp2
        go_ret
        refine ⟨_, rfl, ?_, HK.out⟩
        have := HO.out
        rwa [Nat.sub_zero, show s.size = (rowOf s.data.toList).length by rw [rowOf_len, txt_len], List.take_length] at this
      · have hm : ((m + 1 : Nat) : Int) - 1 = m := by omega
        have hlt : m < s.size := by omega
        have d1 : wr.cell? ⟨w.heap.size, 1, none⟩ = some (.string s) := Blk.cell_eq HD.out rfl
        have ha := HS.out m hlt
        have ha0 : 48 ≤ (s[m].toNat : Int) ∧ (s[m].toNat : Int) ≤ 57 := by omega
        have hne := fun hx => own_blk_ne HO.out HD.out (by decide) (Option.mem_toList.1 hx)
        have hB0 : w.heap.size ≤ wr.heap.size := HK.out.size
        have htk : (rowOf s.data.toList).take (s.size - m) = (rowOf s.data.toList).take (s.size - (m + 1)) ++ [(s[m].toNat : Int) - 48] := by
          have h1 := take_at (rowOf s.data.toList) (s.size - (m + 1)) (by rw [rowOf_len, txt_len]; omega)
          rw [show s.size - (m + 1) + 1 = s.size - m by omega] at h1
          rw [h1, show s.size - (m + 1) = s.size - 1 - m by omega, row_byte s m hlt]
        have HTK := Lib.hid htk
        have HLen : Hid (((rowOf s.data.toList).take (s.size - (m + 1))).length ≤ 1000000000000) := by unfold Hid; rw [List.length_take, rowOf_len, txt_len]; omega
        have w1 : IntKind.u8.wrap ((s[m].toNat : Int) - 48) = (s[m].toNat : Int) - 48 := by simp [IntKind.wrap, IntKind.bits, IntKind.signed]; omega
        have w2 : IntKind.i64.wrap ((s[m].toNat : Int) - 48) = (s[m].toNat : Int) - 48 := by simp [IntKind.wrap, IntKind.bits, IntKind.signed]; omega
        have w3 : IntKind.i64.wrap ((m : Int) - 1) = (m : Int) - 1 := by simp [IntKind.wrap, IntKind.bits, IntKind.signed]; omega
        rw [hm]
        have HNE := Lib.hid hne
        clear htk ha hne
        go_wp2_with (at_builtin; refine wpList_append_int rfl _ _ rfl rfl HO.out _ rfl ((s[m].toNat : Int) - 48) rfl HLen.out hB0 ?_; intro v' w3' h3 k3; have HO3 := Lib.hid h3; have HD3 := Lib.hid (HD.out.keep k3 HNE.out); have HK3 := Lib.hid (HK.out.own HO.out k3 (Nat.le_refl _)); clear h3 k3)
        go_roundg m
        case measure => omega
        case rel => exact ⟨by go_num, by omega, by rw [HTK.out]; exact HO3.out, HD3.out, HK3.out⟩
end Go.Proofs.YtkkglaglnfebjaaDoor

namespace Go.Proofs.YtkkglaglnfebjaaDoor
open Go.RowKit Go.IntWalk

theorem madeN_step (row : List Int) (n : Nat) (h : 1 < n) (hz : atL row (n - 1) = 0) : madeN row n = madeN row (n - 1) := by
  obtain ⟨m, rfl⟩ : ∃ m, n = m + 2 := ⟨n - 2, by omega⟩
  rw [show m + 2 - 1 = m + 1 by omega] at hz ⊢
  rw [madeN, if_pos hz]
theorem madeN_end (row : List Int) (n : Nat) (h1 : 1 ≤ n) (h : ¬ (1 < n ∧ atL row (n - 1) = 0)) : madeN row n = n := by
  by_cases h2 : 1 < n
  · obtain ⟨m, rfl⟩ : ∃ m, n = m + 2 := ⟨n - 2, by omega⟩
    rw [show m + 2 - 1 = m + 1 by omega] at h
    rw [madeN, if_neg (fun hz => h ⟨h2, hz⟩)]
  · obtain rfl : n = 1 := by omega
    rfl
set_option maxRecDepth 100000 in
set_option maxHeartbeats 2000000 in
theorem made03_any (w : World) (v : Value) (row : List Int) (sc : Int) (hv : RdI w v row) (ho : okR row) (hr : 1 ≤ row.length) (hr4 : row.length ≤ 1000) (hn : (madeR row).length ≤ 400) (hsc : sc ≤ 400) :
    Calls Tryd.prog 68 #[.bool false, v, .int .i64 sc] w fun e w' => e = .returned (.tuple #[decT false (madeR row) sc, .int .i64 0]) ∧ Keep [] w w' := by
  have HV := Lib.hid hv
  have HO := Lib.hid ho
  have HN0 := Lib.hid (Blk.new w 51 #[.bool false, .string ⟨#[]⟩, .int .i64 0])
  have HK0 := Lib.hid ((Keep.refl [] w).alloc (.cells #[.bool false, .string ⟨#[]⟩, .int .i64 0] 51))
  unfold decT decV
  obtain ⟨T, hT⟩ : ∃ T : ByteArray, T = ⟨(madeR row).toArray⟩ := ⟨_, rfl⟩
  rw [← hT]
  have hne : row ≠ [] := by intro e; rw [e] at hr; simp at hr
  have HT : Hid (T = ⟨((row.take (madeN row row.length)).reverse.map toB).toArray⟩) := by
    unfold Hid
    rw [hT]
    unfold madeR
    rw [if_neg hne]
  have HNL : Hid ((madeN row row.length ≤ row.length → madeN row row.length ≤ 400)) := by
    intro h
    unfold madeR at hn
    rw [if_neg hne, List.length_map, List.length_reverse, List.length_take] at hn
    omega
  obtain ⟨A, cap, rfl, hc⟩ := hv
  obtain ⟨g, rfl, hg, -⟩ := hc hne
  have HC : Hid (∀ i, i < row.length → w.cell? ⟨g, i, none⟩ = some (.int .i64 (atL row i))) := fun i hi => by
    obtain ⟨A', cap', e1, hc'⟩ := HV.out
    obtain ⟨g', e2, _, hc2⟩ := hc' hne
    cases e1
    cases e2
    exact hc2 i _ (atL_get row i hi)
  clear hT hn hc ho hne HV
  go_enter Tryd.func68, Tryd.ntmps68
  go_wp2
  go_loopg [8] row.length (fun k s8 wx => s8 = .int .i64 k ∧ 1 ≤ k ∧ k ≤ row.length ∧ madeN row k = madeN row row.length ∧ wx = w.alloc (.cells #[.bool false, .string ⟨#[]⟩, .int .i64 0] 51))
  case atStart => exact ⟨rfl, hr, Nat.le_refl _, rfl, rfl⟩
  case round =>
    obtain ⟨rfl, hk1, hk, hm, rfl⟩ := hrel
    obtain ⟨m, rfl⟩ : ∃ m, gk = m + 1 := ⟨gk - 1, by omega⟩
    have hc1 : (w.alloc (.cells #[.bool false, .string ⟨#[]⟩, .int .i64 0] 51)).cell? ⟨g, m, none⟩ = some (.int .i64 (atL row m)) := (HK0.out.cell (p := ⟨g, m, none⟩) hg (by simp)).trans (HC.out m (by omega))
    have hw1 : IntKind.i64.wrap ((m : Int) + 1 - 1) = m := by simp [IntKind.wrap, IntKind.bits, IntKind.signed]; omega
    have HM := Lib.hid hm
    have hat := atL_ok row HO.out m
    by_cases hgo : 1 < m + 1 ∧ atL row m = 0
    · have HM2 : Hid (madeN row m = madeN row row.length) := by
        have := madeN_step row (m + 1) hgo.1 (by rw [Nat.add_sub_cancel]; exact hgo.2)
        rw [Nat.add_sub_cancel] at this
        exact this.symm.trans HM.out
      obtain ⟨c1, c2⟩ := hgo
      have c1' : (1 : Int) < (m : Int) + 1 := by omega
      rw [c2] at hc1 hat
      clear hm
      go_wp2
      go_roundg m
      case measure => omega
      case rel => exact ⟨by go_num, by omega, by omega, HM2.out, rfl⟩
    · have hend := madeN_end row (m + 1) (by omega) (by rw [Nat.add_sub_cancel]; exact hgo)
      have hn4 : m + 1 ≤ 400 := by
        have := HNL.out (by rw [← hm, hend]; omega)
        rw [← hm, hend] at this
        exact this
      have HE : Hid (T = ⟨((row.take (m + 1)).reverse.map toB).toArray⟩) := by
        unfold Hid
        rw [HT.out, ← hm, hend]
      have HMk := fun W : World => run_make_bytes (m + 1) (by omega) W ((m : Int) + 1) (by omega)
      clear hm hend HT HNL HM
      refine Or.elim (Decidable.em ((1 : Int) < (m : Int) + 1)) (fun c1 => ?_) (fun c1 => ?_)
      have c2 : ¬ atL row m = 0 := fun h => hgo ⟨by omega, h⟩
      rotate_left
      have c2 : True := trivial
      rotate_left
      all_goals
        clear hgo
        go_wp2
        clear c2
        go_loopg [10] (m + 1) (fun k s10 wx => ∃ i : Nat, s10 = .int .i64 i ∧ i + k = m + 1 ∧ Blk wx (w.heap.size + 1) 5 (arrB (fillB k ((row.take i).reverse.map toB))) ∧ Blk wx w.heap.size 51 #[.bool false, .string ⟨#[]⟩, .int .i64 0] ∧ Keep [] w wx)
        case atStart => exact ⟨0, rfl, by omega, Blk.new' _ _ _ _ (by simp), HN0.out.alloc _, HK0.out.alloc _⟩
        case round =>
          obtain ⟨i, rfl, hik, hB, hN, hK⟩ := hrel
          have HB := Lib.hid hB
          have HN := Lib.hid hN
          have HK := Lib.hid hK
          rcases gk with _ | j
          · obtain rfl : i = m + 1 := by omega
            have HE2 : Hid (Blk wr (w.heap.size + 1) 5 (arrB ((row.take (m + 1)).reverse.map toB))) := HB.out
            have hcv := run_text HE2.out (m + 1) (m + 1) (by rw [List.length_map, List.length_reverse, List.length_take]; omega)
            rw [← HE.out] at hcv
            obtain ⟨n0, n1, n2, nf⟩ := (⟨Blk.cell_eq hN rfl, Blk.cell_eq hN rfl, Blk.cell_eq hN rfl, Blk.frozen hN⟩ : wr.cell? ⟨w.heap.size, 0, none⟩ = some (.bool false) ∧ wr.cell? ⟨w.heap.size, 1, none⟩ = some (.string ⟨#[]⟩) ∧ wr.cell? ⟨w.heap.size, 2, none⟩ = some (.int .i64 0) ∧ ∀ i, wr.frozen? ⟨w.heap.size, i, none⟩ = false)
            have hlt := Blk.lt hN
            clear hB hN hK HB HE2 HE hc1
            go_wp2
            all_goals
              obtain ⟨c0, c1, c2, _⟩ := DecAt.all (neg := false) (s := T) (sc := sc) (Blk.alloc (Blk.set_ (Blk.set_ (Blk.set_ HN.out 0 (.bool false)) 1 (.string T)) 2 (.int .i64 sc)) (.cells #[.bool false, .string T, .int .i64 sc] 51))
              refine bodyPost_ret (v := .tuple #[.agg #[.bool false, .string T, .int .i64 sc], .int .i64 0]) (by generalize World.alloc _ _ = W at c0 c1 c2 ⊢; simp [results, Tryd.results68, go_sem, c0, c1, c2]) rfl ⟨rfl, ?_⟩
              repeat (first | exact HK.out | refine Keep.setCell ?_ (.inr (Nat.le_refl _)) _ | refine Keep.setCell ?_ (.inr HK.out.size) _ | refine Keep.alloc ?_ _)
          · have hi : i < row.length := by omega
            have hc2 : wr.cell? ⟨g, i, none⟩ = some (.int .i64 (atL row i)) := (hK.cell (p := ⟨g, i, none⟩) hg (by simp)).trans (HC.out i hi)
            have hx := atL_ok row HO.out i
            have htk := take_at row i hi
            have hw2 : IntKind.i64.wrap ((m : Int) - i) = j := by simp [IntKind.wrap, IntKind.bits, IntKind.signed]; omega
            have hw3 : IntKind.i64.wrap ((i : Int) + 1) = (i : Int) + 1 := by simp [IntKind.wrap, IntKind.bits, IntKind.signed]; omega
            have hw4 : IntKind.i64.wrap (48 + atL row i) = 48 + atL row i := by simp [IntKind.wrap, IntKind.bits, IntKind.signed]; omega
            have hw5 : IntKind.u8.wrap (48 + atL row i) = 48 + atL row i := by simp [IntKind.wrap, IntKind.bits, IntKind.signed]; omega
            have hf := hB.frozen j
            have hcl : wr.cell? ⟨w.heap.size + 1, j, none⟩ = some (.int .u8 0) := hB.cell_eq (by
              rw [arrB_at]
              unfold fillB
              rw [List.getElem?_append_left (by simp), List.getElem?_replicate, if_pos (by omega)]; rfl)
            have HB2 : Hid (Blk (wr.setCell ⟨w.heap.size + 1, j, none⟩ (.int .u8 (48 + atL row i))) (w.heap.size + 1) 5 (arrB (fillB j ((row.take (i + 1)).reverse.map toB)))) := by
              have := Blk.set_ hB j (.int .u8 (48 + atL row i))
              rw [← cell_toB (atL row i) hx.1 hx.2, arrB_set j] at this
              rw [htk, List.reverse_append]
              rwa [cell_toB (atL row i) hx.1 hx.2] at this
            have HN2 := Lib.hid (hN.far (p := ⟨w.heap.size + 1, j, none⟩) (by simp) (.int .u8 (48 + atL row i)))
            clear hB hN hK HB HN htk hx hat hc1
            generalize atL row i = x at *
            go_wp2
            go_roundg j
            case measure => omega
            case rel => exact ⟨i + 1, by go_num, by omega, HB2.out, HN2.out, HK.out.setCell (.inr (Nat.le_succ _)) _⟩
theorem one_rd (w : World) (n : Nat) (hn : w.heap.size = n) (x : Int) : RdI (w.alloc (.cells #[.int .i64 x] 3)) (.slice (some ⟨n, 0, none⟩) 1 1) [x] := by
  subst hn
  refine ⟨_, 1, rfl, fun _ => ⟨w.heap.size, rfl, by simp, fun i y hy => ?_⟩⟩
  rw [(Blk.new w 3 #[.int .i64 x]).cell]
  match i, hy with
  | 0, hy => cases hy; rfl
set_option maxRecDepth 100000 in
set_option maxHeartbeats 2000000 in
theorem made03_nil (w : World) (v : Value) (sc : Int) (hv : RdI w v []) (hsc : sc ≤ 400) :
    Calls Tryd.prog 68 #[.bool false, v, .int .i64 sc] w fun e w' => e = .returned (.tuple #[decT false [48] sc, .int .i64 0]) ∧ Keep [] w w' := by
  have HN0 := Lib.hid (Blk.new w 51 #[.bool false, .string ⟨#[]⟩, .int .i64 0])
  have HK0 := Lib.hid ((Keep.refl [] w).alloc (.cells #[.bool false, .string ⟨#[]⟩, .int .i64 0] 51))
  have HM : Hid (Calls Tryd.prog 68 #[.bool false, .slice (some ⟨w.heap.size + 1, 0, none⟩) 1 1, .int .i64 sc] ((w.alloc (.cells #[.bool false, .string ⟨#[]⟩, .int .i64 0] 51)).alloc (.cells #[.int .i64 0] 3)) fun e w' => e = .returned (.tuple #[.agg #[.bool false, .string ⟨#[48]⟩, .int .i64 sc], .int .i64 0]) ∧ Keep [] ((w.alloc (.cells #[.bool false, .string ⟨#[]⟩, .int .i64 0] 51)).alloc (.cells #[.int .i64 0] 3)) w') :=
    made03_any _ _ [0] sc (one_rd _ _ (by simp) 0) (by intro x hx; simp at hx; omega) (by simp) (by simp) (by decide) hsc
  unfold decT decV
  obtain ⟨A, cap, rfl, -⟩ := hv
  clear hsc
  go_enter Tryd.func68, Tryd.ntmps68
  go_wp2
  go_loopg [8] 0 (fun _ s8 wx => s8 = .int .i64 0 ∧ wx = w.alloc (.cells #[.bool false, .string ⟨#[]⟩, .int .i64 0] 51))
  case atStart => exact ⟨rfl, rfl⟩
  case round =>
    obtain ⟨rfl, rfl⟩ := hrel
    go_wp2_with (first | (go_at_call 68; refine HM.out.mono ?_; rintro e w2 ⟨rfl, hk⟩; have HN2 := Lib.hid ((HN0.out.alloc _).keep hk (by simp)); have HK2 := Lib.hid ((HK0.out.alloc _).nil hk); clear hk; obtain ⟨n0, n1, n2, nf⟩ := DecAt.all HN2.out))
    obtain ⟨c0, c1, c2, _⟩ := DecAt.all (neg := false) (s := ⟨#[48]⟩) (sc := sc) (Blk.set_ (Blk.set_ (Blk.set_ HN2.out 0 (.bool false)) 1 (.string ⟨#[48]⟩)) 2 (.int .i64 sc))
    refine bodyPost_ret (v := .tuple #[.agg #[.bool false, .string ⟨#[48]⟩, .int .i64 sc], .int .i64 0]) (by generalize World.setCell _ _ _ = W at c0 c1 c2 ⊢; simp [results, Tryd.results68, go_sem, c0, c1, c2]) rfl ⟨rfl, ?_⟩
    repeat (first | exact HK2.out | refine Keep.setCell ?_ (.inr (Nat.le_refl _)) _)
theorem made03_all (w : World) (v : Value) (row : List Int) (sc : Int) (hv : RdI w v row) (ho : okR row) (hr4 : row.length ≤ 1000) (hn : (madeR row).length ≤ 400) (hsc : sc ≤ 400) :
    Calls Tryd.prog 68 #[.bool false, v, .int .i64 sc] w fun e w' => e = .returned (.tuple #[decT false (madeR row) sc, .int .i64 0]) ∧ Keep [] w w' := by
  cases row with
  | nil => exact made03_nil w v sc hv hsc
  | cons a r => exact made03_any w v (a :: r) sc hv ho (by simp) hr4 hn hsc
end Go.Proofs.YtkkglaglnfebjaaDoor

namespace Go.Proofs.YtkkglaglnfebjaaDoor
open Go.RowKit Go.IntWalk

theorem run_make_ints (n : Nat) (hn : n ≤ 1000000000) (w : World) : (Instr.makeSlice 88 (.int .i64 n) (.int .i64 n)).run Tryd.prog w =
    .ok (.slice (some ⟨w.heap.size, 0, none⟩) n n) (w.alloc (.cells ((List.replicate n (Value.int .i64 0)).toArray) 3)) := by
  obtain ⟨i0, hi, hz0, hz1, hz2⟩ := info_parts infoInt
  have h := run_make (P := Tryd.prog) w 88 3 i0 _ Tryd.underlying88 hi hz0 .i64 .i64 n n (by omega) (Int.le_refl _) (by rw [hz2]; omega) (by omega)
  rw [hz1, Int.toNat_natCast, Nat.mul_one] at h
  rw [h]
  have e : madeCells (Value.int .i64 0).cells n = (List.replicate n (Value.int .i64 0)).toArray := by
    apply Array.toList_inj.1
    show (madeCells #[.int .i64 0] n).toList = _
    rw [toList_madeCells_one]
  rw [e]
def halfW (W : World) (c : Nat) : World := W.alloc (.cells ((Array.replicate (c + 1) (Value.int .i64 0)).setIfInBounds c (.int .i64 5)) 3)
theorem half_rd (W : World) (c : Nat) : RdI (halfW W c) (.slice (some ⟨W.heap.size, 0, none⟩) (c + 1) (c + 1)) (halfR (c + 1)) := by
  have hb : Blk (halfW W c) W.heap.size 3 _ := Blk.new W 3 ((Array.replicate (c + 1) (Value.int .i64 0)).setIfInBounds c (.int .i64 5))
  have hl : (halfR (c + 1)).length = c + 1 := by unfold halfR; simp
  refine ⟨_, c + 1, by rw [hl], fun _ => ⟨W.heap.size, rfl, hb.lt, fun i x hx => ?_⟩⟩
  rw [hb.cell, ← List.toArray_replicate]
  unfold halfR at hx
  simp only [Nat.add_sub_cancel] at hx
  rw [List.setIfInBounds_toArray, List.getElem?_toArray, List.getElem?_set]
  by_cases hi : c = i
  · subst hi
    rw [if_pos rfl, if_pos (by simp)]
    rw [List.getElem?_append_right (by simp)] at hx
    simp at hx
    rw [hx]
  · rw [if_neg hi]
    have hlt : i < c := by
      have := (List.getElem?_eq_some_iff.1 hx).1
      simp at this; omega
    rw [List.getElem?_append_left (by simpa using hlt), List.getElem?_replicate, if_pos hlt] at hx
    rw [List.getElem?_replicate, if_pos (by omega), ← Option.some.inj hx]
set_option maxRecDepth 100000 in
set_option maxHeartbeats 4000000 in
theorem round03_any (w : World) (v : Value) (row : List Int) (cut : Nat) (hv : RdI w v row) (ho : okR row) (hr : row.length ≤ 1000) (hc1 : 1 ≤ cut) (hc : cut ≤ 400) :
    Calls Tryd.prog 67 #[.bool false, v, .int .i64 cut, .int .i64 1] w fun e w' => ∃ v', e = .returned v' ∧ RdI w' v' (roundR cut row) ∧ Keep [] w w' := by
  have HV := Lib.hid hv
  have HO := Lib.hid ho
  have HA : ∀ (W : World) (i : Nat), Keep [] w W → Hid (Calls Tryd.prog 102 #[v, .int .i64 i] W fun e w' => e = .returned (.int .i64 (atL row i)) ∧ W = w') := fun W i hk => at03_any W v row i (hv.keep_nil hk)
  obtain ⟨A, cap, rfl, -⟩ := hv
  clear ho
  go_enter Tryd.func67, Tryd.ntmps67
  go_wp2
  go_loopg [9, 11] cut (fun k s9 s11 wx => ∃ i : Nat, s11 = .int .i64 i ∧ i + k = cut ∧ OwnI wx w.heap.size s9 (lowR row i) ∧ Keep [] w wx)
  case atStart => exact ⟨0, rfl, by omega, World.ownsRow_nil _ _ _ _, Keep.refl _ _⟩
  case round =>
    obtain ⟨i, rfl, hik, hO1, hK1⟩ := hrel
    have HO1 := Lib.hid hO1
    have HK1 := Lib.hid hK1
    clear hO1 hK1
    rcases gk with _ | k
    · obtain rfl : i = cut := by omega
      have hlt : ¬ i < i := Nat.lt_irrefl _
      have HR1 := Lib.hid HO1.out.reads
      obtain ⟨A2, cap2, rfl, -⟩ := HR1.out
      have HLl : Hid ((lowR row i).length = i) := by unfold Hid lowR; simp
      clear HO1
      go_wp2
      go_loopg [10, 12] (row.length - i) (fun k s10 s12 wx => ∃ j : Nat, s12 = .int .i64 j ∧ i ≤ j ∧ j + k = max i row.length ∧ OwnI wx wr.heap.size s10 ((row.drop i).take (j - i)) ∧ Keep [] wr wx)
      case atStart => exact ⟨i, rfl, Nat.le_refl _, by omega, by rw [Nat.sub_self]; exact World.ownsRow_nil _ _ _ _, Keep.refl _ _⟩
      case round =>
        obtain ⟨j, rfl, hij, hjk, hO2, hK2⟩ := hrel
        have HO2 := Lib.hid hO2
        have HK2 := Lib.hid hK2
        clear hO2 hK2
        rcases gk with _ | k
        · have hnlt : ¬ j < row.length := by omega
          have HHi : Hid ((row.drop i).take (j - i) = row.drop i) := List.take_of_length_le (by rw [List.length_drop]; omega)
          have HR2 := Lib.hid HO2.out.reads
          rw [HHi.out] at HR2
          have HRl := Lib.hid (HR1.out.keep_nil HK2.out)
          have HK3 := Lib.hid (HK1.out.nil HK2.out)
          obtain ⟨c, rfl⟩ : ∃ c, i = c + 1 := ⟨i - 1, by omega⟩
          have hMk := run_make_ints (c + 1) (by omega)
          change ∀ W, (Instr.makeSlice 88 (.int .i64 ((c : Int) + 1)) (.int .i64 ((c : Int) + 1))).run Tryd.prog W = _ at hMk
          have hw1 : IntKind.i64.wrap ((c : Int) + 1 - 1) = c := by simp [IntKind.wrap, IntKind.bits, IntKind.signed]; omega
          have HHf := Lib.hid (half_rd wr c)
          have HKh : Hid (Keep [] wr (halfW wr c)) := (Keep.refl [] wr).alloc _
          clear HO2 HR1 HK1 HK2 HHi
          obtain ⟨A3, cap3, rfl, -⟩ := HR2.out
          go_upto_region 12 with fail
          change Code.wp _ _ _ _ (halfW wr c)
          have HK4 := Lib.hid (HK3.out.nil HKh.out)
          have HRl4 := HRl.out.keep_nil HKh.out
          have HRh4 := HR2.out.keep_nil HKh.out
          have HRf4 := HHf.out
          generalize halfW wr c = w4 at *
          have hlh : (halfR (c + 1)).length = c + 1 := by unfold halfR; simp
          obtain ⟨x1, hx1⟩ : ∃ x, lessF (max ([] : List Int).length (lowR row (c + 1)).length) [] (lowR row (c + 1)) = x := ⟨_, rfl⟩
          obtain ⟨x2, hx2⟩ : ∃ x, lessF (c + 1) (halfR (c + 1)) (lowR row (c + 1)) = x := ⟨_, rfl⟩
          obtain ⟨x3, hx3⟩ : ∃ x, lessF (c + 1) (lowR row (c + 1)) (halfR (c + 1)) = x := ⟨_, rfl⟩
          have HL1 := Lib.hid (less_any w4 _ _ _ _ (RdI.nil w4) HRl4 (by simp) (by rw [HLl.out]; omega))
          have HL2 := Lib.hid (less_any w4 _ _ _ _ HRf4 HRl4 (by rw [hlh]; omega) (by rw [HLl.out]; omega))
          have HL3 := Lib.hid (less_any w4 _ _ _ _ HRl4 HRf4 (by rw [HLl.out]; omega) (by rw [hlh]; omega))
          rw [hx1] at HL1
          rw [hlh, HLl.out, Nat.max_self, hx2] at HL2
          rw [hlh, HLl.out, Nat.max_self, hx3] at HL3
          have HAt : Hid (Calls Tryd.prog 102 #[.slice A3 (row.drop (c + 1)).length cap3, .int .i64 0] w4 fun e w' => e = .returned (.int .i64 (atL (row.drop (c + 1)) 0)) ∧ w4 = w') := at03_any w4 _ _ 0 HRh4
          have hy := atL_ok _ (okR_drop row (c + 1) HO.out) 0
          have HR : Hid (roundR (c + 1) row = if (x2 || (!x3 && decide (atL (row.drop (c + 1)) 0 % 2 = 1))) = true then plusQ (row.drop (c + 1)) [1] 0 else row.drop (c + 1)) := by
            unfold Hid roundR upR
            rw [hx2, hx3]
          have HPl := Lib.hid (plus03_any (w4.alloc (.cells #[.int .i64 1] 3)) _ _ _ _ (HRh4.keep_nil ((Keep.refl _ _).alloc _)) (one_rd w4 w4.heap.size rfl 1) (okR_drop row (c + 1) HO.out) (by intro x hx; simp at hx; omega) (by rw [List.length_drop]; omega) (by simp))
          have hd : (atL (row.drop (c + 1)) 0).tmod 2 = atL (row.drop (c + 1)) 0 % 2 := Int.tmod_eq_emod_of_nonneg hy.1
          have hw2 : IntKind.i64.wrap (atL (row.drop (c + 1)) 0 % 2) = atL (row.drop (c + 1)) 0 % 2 := by simp [IntKind.wrap, IntKind.bits, IntKind.signed]; omega
          have HRh := Lib.hid HRh4
          clear HRl4 HRh4 HRf4 hx1 hx2 hx3 hy HRl HR2 HHf HKh HK3 hMk hw1 HV HA hlt hnlt hlh
          generalize row.drop (c + 1) = H at *
          generalize atL H 0 = y at *
          rw [HLl.out] at HL1 ⊢
          refine Or.elim (Decidable.em (y % 2 = 1)) (fun hod => ?_) (fun hod => ?_)
          · rw [decide_eq_true hod] at HR
            cases x2 <;> cases x3
            all_goals
              go_wp2_with (first | (go_at_call 103; with_reducible refine HL2.out.mono ?_; rintro e w5 ⟨rfl, rfl⟩) | (go_at_call 103; with_reducible refine HL3.out.mono ?_; rintro e w5 ⟨rfl, rfl⟩) | (go_at_call 103; with_reducible refine HL1.out.mono ?_; rintro e w5 ⟨rfl, rfl⟩) | (go_at_call 102; refine HAt.out.mono ?_; rintro e w5 ⟨rfl, rfl⟩) | (go_at_call 104; refine HPl.out.mono ?_; rintro e w6 ⟨v6, rfl, hO6, hk6⟩; have HO6 := Lib.hid hO6; have HK6 := Lib.hid ((HK4.out.alloc _).nil hk6); clear hO6 hk6))
              go_ret
              first
              | exact ⟨_, rfl, by rw [show roundR (c + 1) row = plusQ H [1] 0 from HR.out]; exact HO6.out.reads, HK6.out⟩
              | exact ⟨_, rfl, by rw [show roundR (c + 1) row = H from HR.out]; exact HRh.out, HK4.out⟩
          · rw [decide_eq_false hod] at HR
            cases x2 <;> cases x3
            all_goals
              go_wp2_with (first | (go_at_call 103; with_reducible refine HL2.out.mono ?_; rintro e w5 ⟨rfl, rfl⟩) | (go_at_call 103; with_reducible refine HL3.out.mono ?_; rintro e w5 ⟨rfl, rfl⟩) | (go_at_call 103; with_reducible refine HL1.out.mono ?_; rintro e w5 ⟨rfl, rfl⟩) | (go_at_call 102; refine HAt.out.mono ?_; rintro e w5 ⟨rfl, rfl⟩) | (go_at_call 104; refine HPl.out.mono ?_; rintro e w6 ⟨v6, rfl, hO6, hk6⟩; have HO6 := Lib.hid hO6; have HK6 := Lib.hid ((HK4.out.alloc _).nil hk6); clear hO6 hk6))
              go_ret
              first
              | exact ⟨_, rfl, by rw [show roundR (c + 1) row = plusQ H [1] 0 from HR.out]; exact HO6.out.reads, HK6.out⟩
              | exact ⟨_, rfl, by rw [show roundR (c + 1) row = H from HR.out]; exact HRh.out, HK4.out⟩
        · have hlt2 : j < row.length := by omega
          obtain ⟨A', cap', e1, hc'⟩ := HV.out
          obtain ⟨g, e2, hg, hcell⟩ := hc' (by intro e; rw [e] at hlt2; simp at hlt2)
          cases e1
          subst e2
          have hcl := ((HK1.out.nil HK2.out).cell (p := ⟨g, j, none⟩) hg (by simp)).trans (hcell j _ (atL_get row j hlt2))
          have HE : Hid ((row.drop i).take (j + 1 - i) = (row.drop i).take (j - i) ++ [atL row j]) := by
            have := take_at (row.drop i) (j - i) (by rw [List.length_drop]; omega)
            rw [show j - i + 1 = j + 1 - i by omega] at this
            rw [Hid, this]
            congr 2
            unfold atL
            rw [List.getD_eq_getElem?_getD, List.getD_eq_getElem?_getD, List.getElem?_drop, show i + (j - i) = j by omega]
          have HLl2 : Hid (((row.drop i).take (j - i)).length ≤ 1000000000000) := by unfold Hid; rw [List.length_take, List.length_drop]; omega
          have hB0 := HK2.out.size
          have hw : IntKind.i64.wrap ((j : Int) + 1) = (j : Int) + 1 := by simp [IntKind.wrap, IntKind.bits, IntKind.signed]; omega
          clear hc' hcell
          generalize atL row j = x at *
          go_wp2_with (first | (at_builtin; refine wpList_append_int rfl _ _ rfl rfl HO2.out _ rfl x rfl HLl2.out hB0 ?_; intro v' w3' h3 k3; have HO3 := Lib.hid h3; have HK3 := Lib.hid (HK2.out.own HO2.out k3 (Nat.le_refl _)); clear h3 k3))
          go_roundg k
          case measure => omega
          case rel => exact ⟨j + 1, by go_num, by omega, by omega, by rw [HE.out]; exact HO3.out, HK3.out⟩
    · have hA := HA wr i HK1.out
      have HE : Hid (lowR row (i + 1) = lowR row i ++ [atL row i]) := by unfold Hid lowR; rw [List.range_succ, List.map_append]; rfl
      have HLl : Hid ((lowR row i).length ≤ 1000000000000) := by unfold Hid lowR; simp; omega
      have hB0 : w.heap.size ≤ wr.heap.size := HK1.out.size
      have hw : IntKind.i64.wrap ((i : Int) + 1) = (i : Int) + 1 := by simp [IntKind.wrap, IntKind.bits, IntKind.signed]; omega
      generalize atL row i = x at *
      go_wp2_with (first | (go_at_call 102; refine hA.out.mono ?_; rintro e w1 ⟨rfl, rfl⟩) | (at_builtin; refine wpList_append_int rfl _ _ rfl rfl HO1.out _ rfl x rfl HLl.out hB0 ?_; intro v' w3' h3 k3; have HO3 := Lib.hid h3; have HK3 := Lib.hid (HK1.out.own HO1.out k3 (Nat.le_refl _)); clear h3 k3))
      go_roundg k
      case measure => omega
      case rel => exact ⟨i + 1, by go_num, by omega, by rw [HE.out]; exact HO3.out, HK3.out⟩
end Go.Proofs.YtkkglaglnfebjaaDoor

namespace Go.Proofs.YtkkglaglnfebjaaDoor
open Go.RowKit Go.IntWalk

/-- A slice of the call's own of bytes. -/
def OwnU (w : World) (B : Nat) (v : Value) (l : List UInt8) : Prop := w.ownsRow B 5 1 v l.length (l.map cellB)
theorem OwnU.lt {w : World} {B : Nat} {v : Value} {l : List UInt8} (h : OwnU w B v l) : ∀ x ∈ v.ownBlock.toList, B ≤ x := fun x hx => (World.ownsRow.lt h x (by simpa using hx)).1
theorem wpList_append_u8 {ops : Array Oper} {rest : List Oper} {o : Oper} {a : Act} {Q : Exit → Act → World → Prop} (hgd : o.guard = none) (s x : Operand)
    (ho : o.op = .call { callee := .builtin .append, args := #[s, x], argTypes := #[84, 84] })
    {w0 : World} {B : Nat} {v : Value} {l : List UInt8} (hs : a.eval s = v) (hown : OwnU w0 B v l) (n : Nat) (hn : w0.heap.size = n) (b : UInt8) (z : Int) (hz : cellB b = .int .u8 z) (hx : a.eval x = .slice (some ⟨n, 0, none⟩) 1 1)
    (hlen : l.length ≤ 1000000000000) (hB : B ≤ w0.heap.size)
    (h : ∀ v' w', OwnU w' B v' (l ++ [b]) → Keep v.ownBlock.toList w0 w' → wpList Tryd.prog ops Q rest (a.put o.dst v') w') : wpList Tryd.prog ops Q (o :: rest) a (w0.alloc (.cells #[.int .u8 z] 5)) := by
  obtain ⟨i0, hi, hz0, hz1, hz2⟩ := info_parts infoU8
  refine wpList_append_own _ hgd s x 84 ho B 5 i0 _ 1 1 Tryd.underlying84 hi hz0 hz1 hz2 rfl (by decide) v l.length (l.map cellB) hs (World.ownsRow.alloc hown _) ⟨n, 0, none⟩ 1 1 [.int .u8 z] hx rfl (new_cells w0 n hn [.int .u8 z] _) ?_ (by unfold maxLen; omega) (by omega) (by simp; omega) ?_
  · intro u hu
    simp only [List.mem_cons, List.mem_nil_iff, or_false] at hu
    rw [hu]; rfl
  · intro v' w' h1 h2 _
    refine h v' w' ?_ (((Keep.refl _ w0).alloc _).grown h2 fun k hk => .inl (by simpa using hk))
    unfold OwnU
    rw [List.map_append]
    show w'.ownsRow B _ 1 v' _ (_ ++ [cellB b])
    rw [hz]
    simpa using h1
theorem Keep.ownU {bs : List Nat} {a w w' : World} {v : Value} {l : List UInt8} {B : Nat} (h : Keep bs a w) (ho : OwnU w B v l) (hk : Keep v.ownBlock.toList w w') (hB : a.heap.size ≤ B) : Keep bs a w' :=
  h.trans hk fun x hx => .inr (Nat.le_trans hB (ho.lt x hx))
/-- 'string(b)' of bytes of the call's own. -/
theorem run_own_text {w : World} {B : Nat} {v : Value} {l : List UInt8} (h : OwnU w B v l) (hl : l ≠ []) : (convert 84 9 v).run Tryd.prog w = .ok (.string ⟨l.toArray⟩) w := by
  have h' := h
  rcases h.2 with ⟨rfl, h0⟩ | ⟨g, cap, cur, rfl, hB, hg, _⟩
  · exact absurd (List.eq_nil_of_length_eq_zero h0) hl
  · refine Lib.run_convert_whole w _ _ _ Tryd.underlying84 Tryd.underlying5 Tryd.underlying9 g 0 ⟨l.toArray⟩ (fun i hi => ?_) cap
    have hi' : i < l.length := hi
    rw [Nat.zero_add, World.ownsRow.cellAt h' i (by omega), List.getElem?_map, List.getElem?_eq_getElem hi']; rfl

set_option maxRecDepth 100000 in
set_option maxHeartbeats 4000000 in
theorem print03_any (w : World) (s : ByteArray) (sc : Nat) (hs1 : 1 ≤ s.size) (hs : s.size ≤ 400) (hsc : sc ≤ 400) (ho : okT s.data.toList) :
    Calls Tryd.prog 69 #[decV false s (sc : Int)] w fun e w' => e = .returned (.string ⟨(textD s.data.toList sc).toArray⟩) ∧ Keep [] w w' := by
  have HD0 := Lib.hid (Blk.new w 51 #[.bool false, .string s, .int .i64 (sc : Int)])
  have HK0 := Lib.hid ((Keep.refl [] w).alloc (.cells #[.bool false, .string s, .int .i64 (sc : Int)] 51))
  have HRw := Lib.hid (row_any (w.alloc (.cells #[.bool false, .string s, .int .i64 (sc : Int)] 51)) false s (sc : Int) (by omega) ho)
  have hne : s.data.toList ≠ [] := fun e => by have := txt_len s; rw [e] at this; simp at this; omega
  obtain ⟨T, hT⟩ : ∃ T : ByteArray, T = ⟨(textD s.data.toList sc).toArray⟩ := ⟨_, rfl⟩
  rw [← hT]
  have HT : Hid (T = ⟨(prL (rowOf (padT sc s.data.toList)) sc (padT sc s.data.toList).length).toArray⟩) := by
    unfold Hid
    rw [hT, pr_text _ _ hne]
  have HPd : Hid (rowOf (padT sc s.data.toList) = rowOf s.data.toList ++ List.replicate (sc + 1 - s.size) 0) := by
    unfold Hid
    rw [rowOf_pad, txt_len]
  have HLr : Hid ((rowOf s.data.toList).length = s.size) := by unfold Hid; rw [rowOf_len, txt_len]
  have HOk : Hid (okR (rowOf (padT sc s.data.toList))) := okR_row _ (okT_pad sc ho)
  have HLp : Hid ((padT sc s.data.toList).length = max (sc + 1) s.size) := by unfold Hid; rw [padT_len, txt_len]
  unfold decV at *
  clear hT hne ho
  generalize padT sc s.data.toList = P at *
  generalize rowOf s.data.toList = R0 at *
  go_enter Tryd.func69, Tryd.ntmps69
  go_wp2_with (first | (go_at_call 66; refine HRw.out.mono ?_; rintro e w1 ⟨v1, rfl, hO1, hk1⟩; have HO1 := Lib.hid hO1; have HD1 := Lib.hid (HD0.out.keep hk1 (by simp)); have HK1 := Lib.hid (HK0.out.nil hk1); clear hO1 hk1))
  go_loopg [3] (sc + 1 - s.size) (fun k s3 wx => ∃ m, m + k = sc + 1 - s.size ∧ OwnI wx (w.heap.size + 1) s3 (R0 ++ List.replicate m 0) ∧ Blk wx w.heap.size 51 #[.bool false, .string s, .int .i64 (sc : Int)] ∧ Keep [] w wx)
  case atStart => exact ⟨0, by omega, by
    have := HO1.out
    rw [List.replicate_zero, List.append_nil]
    simpa using this, HD1.out, HK1.out⟩
  case round =>
    obtain ⟨m, hmk, hO, hD, hK⟩ := hrel
    have HO := Lib.hid hO
    have HD := Lib.hid hD
    have HK := Lib.hid hK
    clear hO hD hK
    obtain ⟨L, hL⟩ : ∃ L, R0 ++ List.replicate m 0 = L := ⟨_, rfl⟩
    rw [hL] at HO
    have HLl : Hid (L.length = s.size + m) := by unfold Hid; rw [← hL, List.length_append, List.length_replicate, HLr.out]
    have HLe := Lib.hid hL
    clear hL
    have d2 : wr.cell? ⟨w.heap.size, 2, none⟩ = some (.int .i64 sc) := Blk.cell_eq HD.out rfl
    have d0 : wr.cell? ⟨w.heap.size, 0, none⟩ = some (.bool false) := Blk.cell_eq HD.out rfl
    have hB0 : w.heap.size + 1 ≤ wr.heap.size := Blk.lt HD.out
    obtain ⟨A, cap, rfl, -⟩ := HO.out.form
    rcases gk with _ | k
    · have c1 : ¬ (L.length : Int) ≤ sc := by rw [HLl.out]; omega
      have HLP : Hid (rowOf P = L) := by
        unfold Hid
        rw [HPd.out, ← HLe.out, show m = sc + 1 - s.size by omega]
      have HT2 : Hid (T = ⟨(prL L sc L.length).toArray⟩) := by
        unfold Hid
        rw [HT.out, HLP.out, show P.length = L.length by rw [HLp.out, HLl.out]; omega]
      have HOk2 : Hid (okR L) := by unfold Hid; rw [← HLP.out]; exact HOk.out
      have hLs : L.length ≤ 401 := by rw [HLl.out]; omega
      have hL1 : 1 ≤ L.length := by rw [HLl.out]; omega
      have hw1 : IntKind.i64.wrap ((L.length : Int) - 1) = (L.length : Int) - 1 := by simp [IntKind.wrap, IntKind.bits, IntKind.signed]; omega
      have HRd := Lib.hid HO.out.reads
      clear HT HPd HOk HLp HLr HLe HLl HLP HO HO1 HRw HD0 HK0 HD1 HK1
      go_wp2
      go_loopg [4, 5] L.length (fun k s4 s5 wx => s5 = .int .i64 ((k : Int) - 1) ∧ k ≤ L.length ∧ ∃ out, OwnU wx wr.heap.size s4 out ∧ out.length + 2 * k ≤ 2 * L.length ∧ out ++ prL L sc k = prL L sc L.length ∧ Keep [] wr wx)
      case atStart => exact ⟨rfl, Nat.le_refl _, [], World.ownsRow_nil _ _ _ _, by simp, rfl, Keep.refl _ _⟩
      case round =>
        obtain ⟨rfl, hk, out, hO, hol, hT, hK2⟩ := hrel
        rcases gk with _ | j
        · have hout : out = prL L sc L.length := by rw [← hT]; exact (List.append_nil _).symm
          have hne : out ≠ [] := by
            rw [hout]
            obtain ⟨q, hq⟩ : ∃ q, L.length = q + 1 := ⟨L.length - 1, by omega⟩
            rw [hq]
            simp [prL]
          have hcv := run_own_text hO hne
          rw [hout, ← HT2.out] at hcv
          have HK9 := Lib.hid (HK.out.nil hK2)
          clear hO hT hK2 hout hne HT2 d0 d2
          go_wp2
          go_ret
          exact ⟨rfl, HK9.out⟩
        · obtain ⟨A', cap', e1, hc'⟩ := HRd.out
          obtain ⟨g, e2', hg, hcell⟩ := hc' (by intro e; rw [e] at hL1; simp at hL1)
          cases e1
          subst e2'
          have hcl : wr.cell? ⟨g, j, none⟩ = some (.int .i64 (atL L j)) := (hK2.cell (p := ⟨g, j, none⟩) hg (by simp)).trans (hcell j _ (atL_get L j (by omega)))
          have hx := atL_ok L HOk2.out j
          have hj : ((j + 1 : Nat) : Int) - 1 = j := by omega
          have HT3 : Hid (out ++ toB (atL L j) :: (if (j : Int) = sc ∧ 0 < j then 46 :: prL L sc j else prL L sc j) = prL L sc L.length) := hT
          have HX : Hid (cellB (toB (atL L j)) = .int .u8 (48 + atL L j)) := cell_toB _ hx.1 hx.2
          have HO2 := Lib.hid hO
          have HKw := Lib.hid hK2
          have HOl : Hid (out.length ≤ 1000000000000) := by unfold Hid; omega
          have HOl3 : Hid ((out ++ [toB (atL L j)]).length ≤ 1000000000000) := by unfold Hid; rw [List.length_append]; simp; omega
          have hB2 := hK2.size
          have hw2 : IntKind.i64.wrap (48 + atL L j) = 48 + atL L j := by simp [IntKind.wrap, IntKind.bits, IntKind.signed]; omega
          have hw3 : IntKind.u8.wrap (48 + atL L j) = 48 + atL L j := by simp [IntKind.wrap, IntKind.bits, IntKind.signed]; omega
          have hw4 : IntKind.i64.wrap ((j : Int) - 1) = (j : Int) - 1 := by simp [IntKind.wrap, IntKind.bits, IntKind.signed]; omega
          rw [hj]
          clear hO hK2 hT hx hc' hcell HT2
          generalize atL L j = x at *
          refine Or.elim (Decidable.em (j = sc)) (fun hjs => ?_) (fun hjs => ?_)
          · subst hjs
            refine Or.elim (Decidable.em ((0 : Int) < j)) (fun h0 => ?_) (fun h0 => ?_)
            · have HT4 : Hid (out ++ toB x :: 46 :: prL L j j = prL L j L.length) := by
                unfold Hid
                rw [← HT3.out, if_pos ⟨rfl, by omega⟩]
              clear HT3
              go_wp2_with (first | (have hz := HO3; clear hz; at_builtin; refine wpList_append_u8 rfl _ _ rfl rfl HO3.out _ rfl 46 46 rfl rfl HOl3.out HK3.out.size ?_; intro v'' w4' h3 k3; have HO4 := Lib.hid h3; have HK4 := Lib.hid (HK3.out.ownU HO3.out k3 (Nat.le_refl _)); clear h3 k3) | (at_builtin; refine wpList_append_u8 rfl _ _ rfl rfl HO2.out _ rfl (toB x) (48 + x) HX.out rfl HOl.out hB2 ?_; intro v' w3' h3 k3; have HO3 := Lib.hid h3; have HK3 := Lib.hid (HKw.out.ownU HO2.out k3 (Nat.le_refl _)); have e2 : w3'.cell? ⟨w.heap.size, 2, none⟩ = some (.int .i64 j) := Blk.cell_eq (HD.out.keep HK3.out (by simp)) rfl; clear h3 k3))
              go_roundg j
              case measure => omega
              case rel => exact ⟨by go_num, by omega, _, HO4.out, by rw [List.length_append, List.length_append]; simp; omega, by rw [← HT4.out]; simp, HK4.out⟩
            · have HT4 : Hid (out ++ toB x :: prL L j j = prL L j L.length) := by
                unfold Hid
                rw [← HT3.out, if_neg (by omega)]
              clear HT3
              go_wp2_with (first | (at_builtin; refine wpList_append_u8 rfl _ _ rfl rfl HO2.out _ rfl (toB x) (48 + x) HX.out rfl HOl.out hB2 ?_; intro v' w3' h3 k3; have HO3 := Lib.hid h3; have HK3 := Lib.hid (HKw.out.ownU HO2.out k3 (Nat.le_refl _)); have e2 : w3'.cell? ⟨w.heap.size, 2, none⟩ = some (.int .i64 j) := Blk.cell_eq (HD.out.keep HK3.out (by simp)) rfl; clear h3 k3))
              go_roundg j
              case measure => omega
              case rel => exact ⟨by go_num, by omega, _, HO3.out, by rw [List.length_append]; simp; omega, by rw [← HT4.out]; simp, HK3.out⟩
          · have HT4 : Hid (out ++ toB x :: prL L sc j = prL L sc L.length) := by
              unfold Hid
              rw [← HT3.out, if_neg (by omega)]
            have hjs2 : ¬ (j : Int) = sc := by omega
            clear HT3
            go_wp2_with (first | (at_builtin; refine wpList_append_u8 rfl _ _ rfl rfl HO2.out _ rfl (toB x) (48 + x) HX.out rfl HOl.out hB2 ?_; intro v' w3' h3 k3; have HO3 := Lib.hid h3; have HK3 := Lib.hid (HKw.out.ownU HO2.out k3 (Nat.le_refl _)); have e2 : w3'.cell? ⟨w.heap.size, 2, none⟩ = some (.int .i64 sc) := Blk.cell_eq (HD.out.keep HK3.out (by simp)) rfl; clear h3 k3))
            go_roundg j
            case measure => omega
            case rel => exact ⟨by go_num, by omega, _, HO3.out, by rw [List.length_append]; simp; omega, by rw [← HT4.out]; simp, HK3.out⟩
    · have c1 : (L.length : Int) ≤ sc := by rw [HLl.out]; omega
      have HNE : Hid (w.heap.size ∉ (Value.slice A L.length cap).ownBlock.toList) := fun hx => own_blk_ne HO.out HD.out (by decide) (Option.mem_toList.1 hx)
      have HLs : Hid (L.length ≤ 1000000000000) := by unfold Hid; rw [HLl.out]; omega
      go_wp2_with (at_builtin; refine wpList_append_int rfl _ _ rfl rfl HO.out _ rfl 0 rfl HLs.out hB0 ?_; intro v' w3' h3 k3; have HO3 := Lib.hid h3; have HD3 := Lib.hid (HD.out.keep k3 HNE.out); have HK3 := Lib.hid (HK.out.own HO.out k3 (Nat.le_succ _)); clear h3 k3)
      go_roundg k
      case measure => omega
      case rel => exact ⟨m + 1, by omega, by rw [List.replicate_succ', ← List.append_assoc, HLe.out]; exact HO3.out, HD3.out, HK3.out⟩
end Go.Proofs.YtkkglaglnfebjaaDoor
