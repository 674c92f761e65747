/- Walks: the reference's Digits and Groups. -/
import Derived.Test.YtkkglaglnfebjaaDoorWGroups
import Derived.Test.YtkkglaglnfebjaaDoorGL
namespace Go.Proofs.YtkkglaglnfebjaaDoor
open Go.RowKit Go.IntWalk

theorem rdigit_any (c : Int) (w : World) : Calls Tryd.prog 60 #[.int .u8 c] w fun e w' => e = .returned (.bool (digB c)) ∧ w = w' := by
  go_enter Tryd.func60, Tryd.ntmps60
  go_wp2
  all_goals
    go_ret
    exact ⟨congrArg Ending.returned (congrArg Value.bool (show _ = digB c by go_light; grind [digB])), rfl⟩
set_option maxRecDepth 100000 in
set_option maxHeartbeats 400000 in
theorem rdigits_any (s : ByteArray) (w : World) (hs : s.size ≤ 9223372036854775800) :
    Calls Tryd.prog 25 #[.string s] w fun e w' => e = .returned (.bool (digsB s)) ∧ w = w' := by
  go_enter Tryd.func25, Tryd.ntmps25
  go_wp2
  go_loop [3] (fun i => ∃ k : Nat, k ≤ s.size ∧ i = .int .i64 k ∧ ∀ j, j < k → digB (s.get! j).toNat = true) (fun i => s.size - (intOf i).toNat)
  case atStart => exact ⟨0, Nat.zero_le _, rfl, fun j h => absurd h (by omega)⟩
  case round =>
    obtain ⟨k, hk, rfl, hall⟩ := hrel
    have HA := Lib.hid hall
    clear hall
    by_cases hlt : k < s.size
    · cases hd : digB s[k].toNat
      · have HE := Lib.hid (all_upto s k hlt hd)
        go_wp2_with (go_at_call 60; refine (rdigit_any _ _).mono ?_; rintro e w' ⟨rfl, rfl⟩)
        go_ret
        exact ⟨by rw [HE.out]; rfl, rfl⟩
      · have HE : Hid (∀ j, j < k + 1 → digB (s.get! j).toNat = true) := fun j hj => by
          by_cases h : j < k
          · exact HA.out j h
          · have : j = k := by omega
            subst this
            rw [get!_eq s j hlt]; exact hd
        go_wp2_with (go_at_call 60; refine (rdigit_any _ _).mono ?_; rintro e w' ⟨rfl, rfl⟩)
        go_round
        case rel => exact ⟨k + 1, by omega, by go_num, HE.out⟩
        case measure => simp [intOf]; omega
    · have hk2 : k = s.size := by omega
      subst hk2
      have HE := Lib.hid (all_end s HA.out)
      go_wp2
      go_ret
      exact ⟨by rw [HE.out]; rfl, rfl⟩

theorem ext_ext (s r : ByteArray) (k : Nat) (hr : r = s.extract 0 k) (a b : Nat) (hb : b ≤ k) : r.extract a b = s.extract a b := by
  subst hr
  apply ByteArray.ext
  simp only [ByteArray.data_extract, Array.extract_extract]
  congr 1 <;> omega
/-- append of strings that read to a slice of the call's own. -/
theorem wpList_append_strs {ops : Array Oper} {rest : List Oper} {o : Oper} {a : Act} {Q : Exit → Act → World → Prop} (hgd : o.guard = none) (s x : Operand)
    (ho : o.op = .call { callee := .builtin .append, args := #[s, x], argTypes := #[44, 44] })
    {w : World} {B : Nat} {v : Value} {l : List ByteArray} (hs : a.eval s = v) (hown : OwnS w B v l) {g o' cap : Nat} {m : List ByteArray} (hx : a.eval x = .slice (some ⟨g, o', none⟩) m.length cap)
    (hc : ∀ j x, m[j]? = some x → w.cell? ⟨g, o' + j, none⟩ = some (.string x)) (hlen : l.length + m.length ≤ 1000000000000) (hB : B ≤ w.heap.size)
    (h : ∀ v' w', OwnS w' B v' (l ++ m) → Keep v.ownBlock.toList w w' → wpList Tryd.prog ops Q rest (a.put o.dst v') w') : wpList Tryd.prog ops Q (o :: rest) a w := by
  obtain ⟨i0, hi, hz0, hz1, hz2⟩ := info_parts infoStr
  refine wpList_append_own _ hgd s x 44 ho B 9 i0 _ 1 16 Tryd.underlying44 hi hz0 hz1 hz2 rfl (by decide) v l.length (l.map Value.string) hs hown ⟨g, o', none⟩ m.length cap (m.map Value.string) hx (by simp) ?_ ?_ (by unfold maxLen; omega) (by omega) hB ?_
  · intro j u hu
    rw [List.getElem?_map] at hu
    cases hm : m[j]? with
    | none => rw [hm] at hu; cases hu
    | some y =>
      rw [hm] at hu
      obtain rfl : Value.string y = u := by simpa using hu
      rw [Addr.add_lit]
      exact hc j y hm
  · intro u hu
    obtain ⟨y, _, rfl⟩ := List.mem_map.1 hu
    rfl
  · intro v' w' h1 h2 _
    refine h v' w' ?_ ((Keep.refl _ w).grown h2 fun k hk => .inl (by simpa using hk))
    unfold OwnS
    rw [List.map_append]
    simpa using h1

theorem groupsL_least (p : PatD) (s : ByteArray) (least : Int) (hg : 0 ≤ p.g) (hs : s.size ≤ 500) (hl : 0 ≤ least) : groupsL p s least = groupsL p s (min least 1000) := by
  by_cases h : least ≤ 1000
  · rw [show min least 1000 = least by omega]
  · unfold groupsL
    rw [if_pos (by omega), if_pos (by omega)]

set_option maxRecDepth 100000 in
set_option maxHeartbeats 1000000 in
theorem rgroups_any (w : World) (v1 v2 v3 v4 : Value) (p : PatD) (s : ByteArray) (least : Int) (ng : p.g = 0 ∧ p.g2 = 0 ∨ 1 ≤ p.g ∧ p.g ≤ 63 ∧ 1 ≤ p.g2 ∧ p.g2 ≤ 63) (hs : s.size ≤ 500) (hl0 : 0 ≤ least) (hl1 : least ≤ 1000) :
    Calls Tryd.prog 26 #[patV v1 v2 v3 v4 p, .string s, .int .i64 least] w fun e w' => ∃ v, e = .returned v ∧ RdS w' v (groupsL p s least) ∧ Keep [] w w' := by
  have HP0 := Lib.hid (PatAt.new w v1 v2 v3 v4 p)
  unfold boxP at HP0
  simp only [patV]
  by_cases g0 : p.g = 0
  · have HL : Hid (groupsL p s least = [s]) := by unfold Hid groupsL; rw [if_pos (.inl g0)]
    rw [HL.out]
    have g1 : (p.g == 0) = true := by simpa using g0
    clear g0 ng
    go_enter Tryd.func26, Tryd.ntmps26
    go_wp2
    go_ret
    exact ⟨_, rfl, (OwnS.one _ (w.heap.size + 1) (by simp) _).reads, ((Keep.refl [] w).alloc _).alloc _⟩
  have ng2 : 1 ≤ p.g ∧ p.g ≤ 63 ∧ 1 ≤ p.g2 ∧ p.g2 ≤ 63 := by omega
  obtain ⟨a1, a2, a3, a4⟩ := ng2
  have g1 : (p.g == 0) = false := by simpa using g0
  clear ng
  by_cases c1 : (s.size : Int) ≤ p.g
  · have HL : Hid (groupsL p s least = [s]) := by unfold Hid groupsL; rw [if_pos (.inr (.inl (by omega)))]
    rw [HL.out]
    clear g0
    go_enter Tryd.func26, Tryd.ntmps26
    go_wp2
    go_ret
    exact ⟨_, rfl, (OwnS.one _ (w.heap.size + 1) (by simp) _).reads, ((Keep.refl [] w).alloc _).alloc _⟩
  by_cases c2 : (s.size : Int) < p.g + least
  · have HL : Hid (groupsL p s least = [s]) := by unfold Hid groupsL; rw [if_pos (.inr (.inr (by omega)))]
    rw [HL.out]
    clear g0
    go_enter Tryd.func26, Tryd.ntmps26
    go_wp2
    go_ret
    exact ⟨_, rfl, (OwnS.one _ (w.heap.size + 1) (by simp) _).reads, ((Keep.refl [] w).alloc _).alloc _⟩
  obtain ⟨n, hn⟩ : ∃ n : Nat, (s.size : Int) - p.g = n := ⟨s.size - p.g.toNat, by omega⟩
  obtain ⟨G2, hg2⟩ : ∃ G2 : Nat, p.g2 = G2 := ⟨p.g2.toNat, by omega⟩
  have hn2 : s.size - p.g.toNat = n := by omega
  have HL : Hid ((piecesF s G2 s.size n).reverse ++ [s.extract n s.size] = groupsL p s least) := by
    unfold Hid groupsL
    rw [if_neg (by omega), hn2, hg2, Int.toNat_natCast, List.reverse_cons]
  rw [hg2] at a3 a4
  have HG2 := Lib.hid hg2
  have hns : n ≤ s.size := by omega
  have b1 : 1 ≤ n := by omega
  have b2 : 1 ≤ G2 := by omega
  have b3 : (n : Int) ≤ s.size := by omega
  clear g0 hn2 hg2
  go_enter Tryd.func26, Tryd.ntmps26
  go_wp2
  have HO0 : Hid (RdS ((w.alloc (.cells #[v1, v2, .bool p.neg, v3, v4, .int .i64 p.mi, .int .i64 p.mf, .int .i64 p.xf, .int .i64 p.g, .int .i64 p.g2] 25)).alloc (.cells #[.string (s.extract n s.size)] 9)) (.slice (some ⟨w.heap.size + 1, 0, none⟩) 1 1) [s.extract n s.size]) := (OwnS.one _ _ (by simp) _).reads
  have HK0 : Hid (Keep [] w ((w.alloc (.cells #[v1, v2, .bool p.neg, v3, v4, .int .i64 p.mi, .int .i64 p.mf, .int .i64 p.xf, .int .i64 p.g, .int .i64 p.g2] 25)).alloc (.cells #[.string (s.extract n s.size)] 9))) := ((Keep.refl [] w).alloc _).alloc _
  have HP1 : Hid (PatAt ((w.alloc (.cells #[v1, v2, .bool p.neg, v3, v4, .int .i64 p.mi, .int .i64 p.mf, .int .i64 p.xf, .int .i64 p.g, .int .i64 p.g2] 25)).alloc (.cells #[.string (s.extract n s.size)] 9)) w.heap.size v1 v2 v3 v4 p) := HP0.out.alloc _
  have hn3 := Lib.hid hn
  clear hn HP0
  go_loopg [7, 8] n (fun k s7 s8 wx => ∃ (f : Nat) (r : ByteArray) (l : List ByteArray), r = s.extract 0 k ∧ r.size = k ∧ k ≤ n ∧ 1 ≤ k ∧ k ≤ f + 1 ∧ s8 = .string r ∧ l ≠ [] ∧ l.length + k ≤ n + 1 ∧ RdS wx s7 l ∧ PatAt wx w.heap.size v1 v2 v3 v4 p ∧ Keep [] w wx ∧ (piecesF s G2 f k).reverse ++ l = groupsL p s least)
  case atStart => exact ⟨s.size, _, [s.extract n s.size], rfl, ext_size _ _ _ hns, Nat.le_refl _, b1, by omega, rfl, by simp, by simp; omega, HO0.out, HP1.out, HK0.out, HL.out⟩
  case round =>
    obtain ⟨f, r, l, hr, hrs, hkn, hk1, hkf, rfl, hne, hal, hO, hP, hK, hd⟩ := hrel
    subst hrs
    obtain ⟨A, cap, rfl, hc1, hc2, hc3⟩ := hO
    obtain ⟨ga, o, rfl, hgl, hcells⟩ := hc3 hne
    have HCells := Lib.hid hcells
    have HR := Lib.hid hr
    have HPx := Lib.hid hP
    have HKx := Lib.hid hK
    have HDx := Lib.hid hd
    have HNE := Lib.hid hne
    obtain ⟨p0, p1, p2, p3, p4, p5, p6, p7, p8, p9, pf, pzr⟩ := hP.all
    rw [HG2.out] at p9
    clear hcells hr hP hK hd hne HO0 HP1 HK0 hc3
    unfold maxLen at hc2
    have d0 : (r.size : Int) ≤ 500 := by omega
    by_cases hgt : G2 < r.size
    · obtain ⟨f, rfl⟩ : ∃ f', f = f' + 1 := ⟨f - 1, by omega⟩
      obtain ⟨m, hm⟩ : ∃ m : Nat, (r.size : Int) - G2 = m := ⟨r.size - G2, by omega⟩
      have hm2 : r.size - G2 = m := by omega
      have d1 : m ≤ r.size := by omega
      have d2 : (m : Int) ≤ r.size := by omega
      have HD2 : Hid ((piecesF s G2 f m).reverse ++ (r.extract m r.size :: l) = groupsL p s least) := by
        have := HDx.out
        simp only [piecesF] at this
        rw [if_pos hgt, hm2, List.reverse_cons, List.append_assoc] at this
        rw [ext_ext s r r.size HR.out m r.size (Nat.le_refl _)]
        exact this
      have HR2 : Hid (r.extract 0 m = s.extract 0 m ∧ (r.extract 0 m).size = m) := ⟨ext_ext s r r.size HR.out 0 m d1, by rw [ext_size _ _ _ d1]; rfl⟩
      have Hm2 := Lib.hid hm2
      clear hm2
      go_wp2_with (at_builtin; refine wpList_append_strs (v := .slice (some ⟨wr.heap.size, 0, none⟩) 1 1) rfl _ _ rfl rfl (OwnS.one _ _ rfl _) rfl (fun j x hx => Lib.cell?_alloc_some _ (HCells.out j x hx)) (by simp; omega) (by simp) ?_; intro v' w4 ho4 hk4; have HO4 := Lib.hid ho4; have HP4 := Lib.hid ((HPx.out.alloc _).keep hk4 (by simp [Value.ownBlock]; omega)); have HK4 := Lib.hid ((HKx.out.alloc _).trans hk4 (fun x hx => .inr (by simp [Value.ownBlock] at hx; have := HKx.out.size; omega))); obtain ⟨p0, p1, p2, p3, p4, p5, p6, p7, p8, p9, pf, pzr⟩ := HP4.out.all; rw [HG2.out] at p9; clear ho4 hk4)
      go_roundg m
      case measure => have := Hm2.out; omega
      case rel => exact ⟨f, _, _, HR2.out.1, HR2.out.2, by omega, by have := Hm2.out; omega, by have := Hm2.out; omega, rfl, by simp, by have := Hm2.out; simp; omega, HO4.out.reads, HP4.out, HK4.out, HD2.out⟩
    · have HD2 : Hid ([r] ++ l = groupsL p s least) := by
        unfold Hid
        rw [← HDx.out]
        have e1 : r = s.extract 0 r.size := HR.out
        cases f with
        | zero => simp [piecesF, ← e1]
        | succ f => simp only [piecesF]; rw [if_neg hgt, ← e1]; rfl
      go_wp2_with (at_builtin; refine wpList_append_strs (v := .slice (some ⟨wr.heap.size, 0, none⟩) 1 1) rfl _ _ rfl rfl (OwnS.one _ _ rfl _) rfl (fun j x hx => Lib.cell?_alloc_some _ (HCells.out j x hx)) (by simp; omega) (by simp) ?_; intro v' w4 ho4 hk4; have HO4 := Lib.hid ho4; have HK4 := Lib.hid ((HKx.out.alloc _).trans hk4 (fun x hx => .inr (by simp [Value.ownBlock] at hx; have := HKx.out.size; omega))); clear ho4 hk4)
      go_ret
      exact ⟨_, rfl, by have := HO4.out.reads; rw [HD2.out] at this; exact this, HK4.out⟩
end Go.Proofs.YtkkglaglnfebjaaDoor
