/- Walks: numpat's Groups. -/
import Derived.Test.YtkkglaglnfebjaaDoorWCut
import Derived.Test.YtkkglaglnfebjaaDoorWDig
import Derived.Test.YtkkglaglnfebjaaDoorGP
namespace Go.Proofs.YtkkglaglnfebjaaDoor
open Go.RowKit Go.IntWalk

theorem infoStr : (Tryd.prog.info? 9).map (fun i => (i.zero, i.size, i.bytes)) = some (some (.string ⟨#[]⟩), 1, 16) := by kernel_rfl
/-- append of one string. -/
theorem wpList_append_str {ops : Array Oper} {rest : List Oper} {o : Oper} {a : Act} {Q : Exit → Act → World → Prop} (hgd : o.guard = none) (s x : Operand)
    (ho : o.op = .call { callee := .builtin .append, args := #[s, x], argTypes := #[44, 44] })
    {w0 : World} {B : Nat} {v : Value} {l : List ByteArray} (hs : a.eval s = v) (hown : OwnS w0 B v l) (n : Nat) (hn : w0.heap.size = n) (p : ByteArray) (hx : a.eval x = .slice (some ⟨n, 0, none⟩) 1 1)
    (hlen : l.length ≤ 1000000000000) (hB : B ≤ w0.heap.size)
    (h : ∀ v' w', OwnS w' B v' (l ++ [p]) → Keep v.ownBlock.toList w0 w' → wpList Tryd.prog ops Q rest (a.put o.dst v') w') : wpList Tryd.prog ops Q (o :: rest) a (w0.alloc (.cells #[.string p] 9)) := by
  obtain ⟨i0, hi, hz0, hz1, hz2⟩ := info_parts infoStr
  refine wpList_append_own _ hgd s x 44 ho B 9 i0 _ 1 16 Tryd.underlying44 hi hz0 hz1 hz2 rfl (by decide) v l.length (l.map Value.string) hs (World.ownsRow.alloc hown _) ⟨n, 0, none⟩ 1 1 [.string p] hx rfl (new_cells w0 n hn [.string p] _) ?_ (by unfold maxLen; omega) (by omega) (by simp; omega) ?_
  · intro u hu
    simp only [List.mem_cons, List.mem_nil_iff, or_false] at hu
    rw [hu]; rfl
  · intro v' w' h1 h2 _
    refine h v' w' ?_ (((Keep.refl _ w0).alloc _).grown h2 fun k hk => .inl (by simpa using hk))
    unfold OwnS
    rw [List.map_append]
    simpa using h1
theorem keep_setCells (b : Nat) : ∀ (vs : List Value) (o : Nat) (w : World), Keep [b] w (w.setCells b o vs)
  | [], _, w => Keep.refl _ _
  | v :: r, o, w => ((Keep.refl [b] w).setCell (p := ⟨b, o, none⟩) (.inl (by simp)) v).same (keep_setCells b r (o + 1) _)
theorem strs_of (l : List ByteArray) : (Lib.strsOf (fun i => l.getD i ⟨#[]⟩) l.length).reverse.map encStr = l.reverse.map Value.string := by
  have h1 : Lib.strsOf (fun i => l.getD i ⟨#[]⟩) l.length = l.map (·.data.toList) := by
    apply List.ext_getElem
    · simp [Lib.strsOf]
    · intro i h1 h2
      simp [Lib.strsOf] at h1 ⊢
      rw [List.getElem?_eq_getElem h1]; rfl
  rw [h1, ← List.map_reverse, List.map_map]
  congr 1
/-- slices.Reverse of a slice of the call's own. -/
theorem reverse_own {w : World} {B : Nat} {v : Value} {l : List ByteArray} (h : OwnS w B v l) (hl : l ≠ []) (hlen : l.length ≤ 1000000) :
    Calls Tryd.prog 59 #[v] w fun e w' => e = .returned (.tuple #[]) ∧ RdS w' v l.reverse ∧ Keep v.ownBlock.toList w w' := by
  obtain ⟨g, cap, rfl, hB, hg, h2, h3, hc, hf⟩ := h.form1 hl
  have hcS : ∀ i, i < l.length → w.cell? ⟨g, 0 + i, none⟩ = some (.string ((fun i => l.getD i ⟨#[]⟩) i)) := fun i hi => by
    rw [Nat.zero_add]
    refine hc i _ ?_
    simp only [List.getD_eq_getElem?_getD]
    rw [List.getElem?_eq_getElem hi]; rfl
  refine (Tryd.slices_Reverse_string_cells g 0 l.length cap (fun i => l.getD i ⟨#[]⟩) w (by omega) hcS (fun j _ => by rw [Nat.zero_add]; exact hf j)).mono fun e w' ⟨he, q, hw⟩ => ⟨he, ?_, ?_⟩
  · have hsz : ((Lib.strsOf (fun i => l.getD i ⟨#[]⟩) l.length).reverse.map encStr).length = l.length := by simp [Lib.strsOf]
    have hin := World.cell?_setCells_in g ((Lib.strsOf (fun i => l.getD i ⟨#[]⟩) l.length).reverse.map encStr) 0 (w.drewN q) (fun j hj => by
      have := hcS j (by omega)
      rw [show (w.drewN q).cell? ⟨g, 0 + j, none⟩ = w.cell? ⟨g, 0 + j, none⟩ from rfl, this]; rfl)
    have hk : Keep [g] w w' := by rw [hw]; exact ((Keep.refl [g] w).drewN q).same (keep_setCells g _ 0 _)
    refine ⟨_, cap, by rw [List.length_reverse], by rw [List.length_reverse]; exact h2, h3, fun _ => ⟨g, 0, rfl, Nat.lt_of_lt_of_le hg hk.size, fun j x hx => ?_⟩⟩
    have hj : j < l.length := by have := (List.getElem?_eq_some_iff.1 hx).1; simpa using this
    have := hin j (by omega)
    rw [hw, this]
    congr 1
    have e : ((Lib.strsOf (fun i => l.getD i ⟨#[]⟩) l.length).reverse.map encStr)[j]? = (l.reverse.map Value.string)[j]? := by rw [strs_of]
    rw [List.getElem?_eq_getElem (by omega), List.getElem?_map, hx] at e
    simpa using e
  · rw [hw]; exact ((Keep.refl _ w).drewN q).same (keep_setCells g _ 0 _)

/-- What Groups hands back. -/
def GPost (w : World) (l : List ByteArray) (err : Int) (e : Ending) (w' : World) : Prop :=
  ∃ v, e = .returned (.tuple #[v, .int .i64 err]) ∧ RdS w' v l ∧ Keep [] w w'

set_option maxRecDepth 100000 in
set_option maxHeartbeats 1000000 in
theorem groups_any (w : World) (v1 v2 v3 v4 : Value) (p : PatD) (s : ByteArray) (least : Int) (hp : RdP w v1 v2 v3 v4 p) (hsz : PatSz p) (hs : s.size ≤ 500) :
    Calls Tryd.prog 24 #[patV v1 v2 v3 v4 p, .string s, .int .i64 least] w (if rightB p = true ∧ digsB s = true ∧ 0 ≤ least then GPost w (groupsL p s least) 0 else GPost w [] 2) := by
  have hC : ∀ W, Keep [] w W → Hid (Calls Tryd.prog 20 #[patV v1 v2 v3 v4 p] W fun e w' => e = .returned (.int .i64 (errB (rightB p))) ∧ Keep [] W w') := fun W hk => pcheck_any W v1 v2 v3 v4 p (hp.keep_nil hk) hsz
  have HC := Lib.hid (hC (w.alloc (boxP v1 v2 v3 v4 p)) ((Keep.refl _ _).alloc _)).out
  have HP0 := Lib.hid (PatAt.new w v1 v2 v3 v4 p)
  clear hC hp hsz
  unfold boxP at HP0 HC
  simp only [patV] at HC ⊢
  cases hr : rightB p
  · rw [if_neg (by simp)]
    rw [hr] at HC
    change Hid (Calls _ _ _ _ fun e w' => e = .returned (.int .i64 2) ∧ Keep [] _ w') at HC
    clear hr
    go_enter Tryd.func24, Tryd.ntmps24
    go_wp2_with (go_at_call 20; refine HC.out.mono ?_; rintro e w' ⟨rfl, hk⟩)
    go_ret2
    exact ⟨_, rfl, RdS.nil _, ((Keep.refl _ _).alloc _).nil hk⟩
  rw [hr] at HC
  change Hid (Calls _ _ _ _ fun e w' => e = .returned (.int .i64 0) ∧ Keep [] _ w') at HC
  obtain ⟨_, ng⟩ := right_nums p hr
  clear hr
  have HD : ∀ W, Hid (Calls Tryd.prog 58 #[.string s] W fun e w' => e = .returned (.bool (digsB s)) ∧ W = w') := fun W => digits_all s W (by omega)
  cases hd : digsB s
  · rw [if_neg (by simp)]
    rw [hd] at HD
    clear hd
    go_enter Tryd.func24, Tryd.ntmps24
    go_wp2_with (first | (go_at_call 20; refine HC.out.mono ?_; rintro e w2 ⟨rfl, hk⟩) | (go_at_call 58; refine (HD _).out.mono ?_; rintro e w' ⟨rfl, rfl⟩))
    go_ret2
    exact ⟨_, rfl, RdS.nil _, ((Keep.refl _ _).alloc _).nil hk⟩
  rw [hd] at HD
  clear hd
  by_cases hl : least < 0
  · rw [if_neg (by omega)]
    go_enter Tryd.func24, Tryd.ntmps24
    go_wp2_with (first | (go_at_call 20; refine HC.out.mono ?_; rintro e w2 ⟨rfl, hk⟩) | (go_at_call 58; refine (HD _).out.mono ?_; rintro e w' ⟨rfl, rfl⟩))
    go_ret2
    exact ⟨_, rfl, RdS.nil _, ((Keep.refl _ _).alloc _).nil hk⟩
  rw [if_pos ⟨rfl, rfl, by omega⟩]
  by_cases g0 : p.g = 0
  · have HL : Hid (groupsL p s least = [s]) := by unfold Hid groupsL; rw [if_pos (.inl g0)]
    rw [HL.out]
    have g1 : (p.g == 0) = true := by simpa using g0
    clear g0 ng
    go_enter Tryd.func24, Tryd.ntmps24
    go_wp2_with (first | (go_at_call 20; refine HC.out.mono ?_; rintro e w2 ⟨rfl, hk⟩; have HK := Lib.hid (((Keep.refl [] w).alloc _).nil hk); have HP2 := Lib.hid (HP0.out.keep hk (by simp)); obtain ⟨p0, p1, p2, p3, p4, p5, p6, p7, p8, p9, pf, pz⟩ := HP2.out.all; clear hk) | (go_at_call 58; refine (HD _).out.mono ?_; rintro e w' ⟨rfl, rfl⟩))
    go_ret2
    exact ⟨_, rfl, (OwnS.one _ _ rfl _).reads, HK.out.alloc _⟩
  have ng2 : 1 ≤ p.g ∧ p.g ≤ 63 ∧ 1 ≤ p.g2 ∧ p.g2 ≤ 63 := by omega
  obtain ⟨a1, a2, a3, a4⟩ := ng2
  have g1 : (p.g == 0) = false := by simpa using g0
  clear ng
  by_cases c1 : (s.size : Int) - p.g < 1
  · have HL : Hid (groupsL p s least = [s]) := by unfold Hid groupsL; rw [if_pos (.inr (.inl c1))]
    rw [HL.out]
    clear g0
    go_enter Tryd.func24, Tryd.ntmps24
    go_wp2_with (first | (go_at_call 20; refine HC.out.mono ?_; rintro e w2 ⟨rfl, hk⟩; have HK := Lib.hid (((Keep.refl [] w).alloc _).nil hk); have HP2 := Lib.hid (HP0.out.keep hk (by simp)); obtain ⟨p0, p1, p2, p3, p4, p5, p6, p7, p8, p9, pf, pz⟩ := HP2.out.all; clear hk) | (go_at_call 58; refine (HD _).out.mono ?_; rintro e w' ⟨rfl, rfl⟩))
    go_ret2
    exact ⟨_, rfl, (OwnS.one _ _ rfl _).reads, HK.out.alloc _⟩
  by_cases c2 : (s.size : Int) - p.g < least
  · have HL : Hid (groupsL p s least = [s]) := by unfold Hid groupsL; rw [if_pos (.inr (.inr c2))]
    rw [HL.out]
    clear g0
    go_enter Tryd.func24, Tryd.ntmps24
    go_wp2_with (first | (go_at_call 20; refine HC.out.mono ?_; rintro e w2 ⟨rfl, hk⟩; have HK := Lib.hid (((Keep.refl [] w).alloc _).nil hk); have HP2 := Lib.hid (HP0.out.keep hk (by simp)); obtain ⟨p0, p1, p2, p3, p4, p5, p6, p7, p8, p9, pf, pz⟩ := HP2.out.all; clear hk) | (go_at_call 58; refine (HD _).out.mono ?_; rintro e w' ⟨rfl, rfl⟩))
    go_ret2
    exact ⟨_, rfl, (OwnS.one _ _ rfl _).reads, HK.out.alloc _⟩
  have HL : Hid (groupsL p s least = (s.extract (s.size - p.g.toNat) s.size :: piecesF s p.g2.toNat s.size (s.size - p.g.toNat)).reverse) := by unfold Hid groupsL; rw [if_neg (by omega)]
  obtain ⟨n, hn⟩ : ∃ n : Nat, (s.size : Int) - p.g = n := ⟨s.size - p.g.toNat, by omega⟩
  obtain ⟨G2, hg2⟩ : ∃ G2 : Nat, p.g2 = G2 := ⟨p.g2.toNat, by omega⟩
  have hn2 : s.size - p.g.toNat = n := by omega
  rw [hn2, hg2, Int.toNat_natCast] at HL
  rw [hn] at c1 c2
  rw [hg2] at a3 a4
  have HG2 := Lib.hid hg2
  clear hg2
  have hns : n ≤ s.size := by omega
  have b1 : 1 ≤ n := by omega
  have b2 : 1 ≤ G2 := by omega
  have b3 : (n : Int) ≤ s.size := by omega
  clear g0 hn2
  go_enter Tryd.func24, Tryd.ntmps24
  go_wp2_with (first | (go_at_call 20; refine HC.out.mono ?_; rintro e w2 ⟨rfl, hk⟩; have HK := Lib.hid (((Keep.refl [] w).alloc _).nil hk); have HP2 := Lib.hid (HP0.out.keep hk (by simp)); obtain ⟨p0, p1, p2, p3, p4, p5, p6, p7, p8, p9, pf, pz⟩ := HP2.out.all; rw [HG2.out] at p9; clear hk) | (go_at_call 58; refine (HD _).out.mono ?_; rintro e w' ⟨rfl, rfl⟩))
  have hB : w.heap.size ≤ w2.heap.size := HK.out.size
  obtain ⟨B, hBw⟩ : ∃ B, w2.heap.size = B := ⟨_, rfl⟩
  have HO0 := Lib.hid (OwnS.one w2 B hBw (s.extract n s.size))
  have HK0 : Hid (Keep [] w (w2.alloc (.cells #[.string (s.extract n s.size)] 9))) := HK.out.alloc _
  have HP3 : Hid (PatAt (w2.alloc (.cells #[.string (s.extract n s.size)] 9)) w.heap.size v1 v2 v3 v4 p) := HP2.out.alloc _
  rw [hBw]
  rw [hBw] at hB pz
  have hn3 := Lib.hid hn
  clear hBw HP2 HK HD HC HP0 p0 p1 p2 p3 p4 p5 p6 p7 p8 p9 pf hn
  go_loopg [9, 10] n (fun k s9 s10 wx => ∃ (f : Nat) (acc : List ByteArray), k ≤ n ∧ 1 ≤ k ∧ k ≤ f + 1 ∧ s9 = .int .i64 k ∧ acc ≠ [] ∧ acc.length + k ≤ n + 1 ∧ OwnS wx B s10 acc ∧ PatAt wx w.heap.size v1 v2 v3 v4 p ∧ Keep [] w wx ∧ acc ++ piecesF s G2 f k = s.extract n s.size :: piecesF s G2 s.size n)
  case atStart => exact ⟨s.size, [s.extract n s.size], Nat.le_refl _, b1, by omega, rfl, by simp, by simp; omega, HO0.out, HP3.out, HK0.out, rfl⟩
  case round =>
    obtain ⟨f, acc, hkn, hk1, hkf, rfl, hne, hal, hO, hP, hK, hd⟩ := hrel
    obtain ⟨ga, cap, rfl, hga, hgl, hac, hcm, hcells, hfz⟩ := hO.form1 hne
    have HO := Lib.hid hO
    have HPx := Lib.hid hP
    have HKx := Lib.hid hK
    have HDx := Lib.hid hd
    have HNE := Lib.hid hne
    obtain ⟨p0, p1, p2, p3, p4, p5, p6, p7, p8, p9, pf, pzr⟩ := hP.all
    rw [HG2.out] at p9
    have hBr : B ≤ wr.heap.size := by omega
    have hal2 : acc.length ≤ 1000000000000 := by omega
    clear hO hP hK hd hne hcells hfz HO0 HP3 HK0
    by_cases hgt : G2 < gk
    · obtain ⟨f, rfl⟩ : ∃ f', f = f' + 1 := ⟨f - 1, by omega⟩
      have HD2 : Hid (acc ++ [s.extract (gk - G2) gk] ++ piecesF s G2 f (gk - G2) = s.extract n s.size :: piecesF s G2 s.size n) := by
        have := HDx.out; simp only [piecesF] at this; rw [if_pos hgt] at this; unfold Hid; rw [← this]; simp
      obtain ⟨m, hm⟩ : ∃ m : Nat, (gk : Int) - G2 = m := ⟨gk - G2, by omega⟩
      have hm2 : gk - G2 = m := by omega
      rw [hm2] at HD2
      have d1 : m ≤ gk := by omega
      have d2 : (m : Int) ≤ gk := by omega
      have d3 : (gk : Int) ≤ s.size := by omega
      have d4 : (gk : Int) ≤ 500 := by omega
      have Hm2 := Lib.hid hm2
      clear hm2
      go_wp2_with (at_builtin; refine wpList_append_str rfl _ _ rfl rfl HO.out _ rfl (s.extract m gk) rfl hal2 hBr ?_; intro v' w4 ho4 hk4; have HO4 := Lib.hid ho4; have HP4 := Lib.hid (HPx.out.keep hk4 (fun hc => by have := HO.out.lt _ hc; omega)); have HK4 := Lib.hid (HKx.out.trans hk4 (fun x hx => .inr (by have := HO.out.lt x hx; omega))); obtain ⟨p0, p1, p2, p3, p4, p5, p6, p7, p8, p9, pf, pzr⟩ := HP4.out.all; rw [HG2.out] at p9; clear ho4 hk4)
      go_roundg m
      case measure => omega
      case rel => exact ⟨f, _, by omega, by omega, by omega, by go_num, by simp, by rw [List.length_append]; simp; omega, HO4.out, HP4.out, HK4.out, by have := HD2.out; exact this⟩
    · have HD2 : Hid ((acc ++ [s.extract 0 gk]).reverse = groupsL p s least) := by
        unfold Hid
        rw [HL.out, ← HDx.out]
        cases f with
        | zero => simp [piecesF]
        | succ f => simp only [piecesF]; rw [if_neg hgt]
      have hgt2 : gk ≤ G2 := by omega
      have d3 : (gk : Int) ≤ s.size := by omega
      have d4 : (gk : Int) ≤ 500 := by omega
      have d5 : gk ≤ s.size := by omega
      clear hgt
      go_wp2_with (at_builtin; refine wpList_append_str rfl _ _ rfl rfl HO.out _ rfl (s.extract 0 gk) rfl hal2 hBr ?_; intro v' w4 ho4 hk4; have HO4 := Lib.hid ho4; have HK4 := Lib.hid (HKx.out.trans hk4 (fun x hx => .inr (by have := HO.out.lt x hx; omega))); clear ho4 hk4)
      obtain ⟨gb, capb, hv, hgb, hgbl, _, _, _, _⟩ := HO4.out.form1 (by simp)
      have hrev := reverse_own HO4.out (by simp) (by rw [List.length_append]; simp; omega)
      rw [HD2.out] at hrev
      have HRev := Lib.hid hrev
      have Hgb : Hid (∀ x ∈ v'.ownBlock.toList, B ≤ x) := HO4.out.lt
      obtain ⟨nv, hnv⟩ : ∃ nv, (acc ++ [s.extract 0 gk]).length = nv := ⟨_, rfl⟩
      rw [hnv] at hv
      subst hv
      clear hrev hnv
      go_wp2_with (go_at_call 59; refine HRev.out.mono ?_; rintro e w5 ⟨rfl, hr5, hk5⟩)
      go_ret2
      exact ⟨_, rfl, hr5, HK4.out.trans hk5 (fun x hx => .inr (by have := Hgb.out x hx; omega))⟩
end Go.Proofs.YtkkglaglnfebjaaDoor
