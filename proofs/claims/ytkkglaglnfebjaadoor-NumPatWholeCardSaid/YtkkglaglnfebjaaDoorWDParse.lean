/- Walks: dec.Parse on digits, with a point or without. -/
import Derived.Test.YtkkglaglnfebjaaDoorWRound
import Derived.ScopeJumps
namespace Go.Proofs.YtkkglaglnfebjaaDoor
open Go.RowKit Go.IntWalk

/-- As Q; by a goto to label l: J l. -/
def jumpsTo (J : Nat → Act → World → Prop) (Q : Exit → Act → World → Prop) : Exit → Act → World → Prop
  | .goto l, a, w => J l a w
  | e, a, w => Q e a w
/-- A scope with many labels: what holds at each jump, and a measure that each pass lowers. -/
theorem wp_scope_many {P : Program} {a : Act} {w : World} {Q : Exit → Act → World → Prop} {c : Code} (J : Nat → Act → World → Prop) (μ : Nat → Act → World → Nat)
    (pass : ∀ l a w, J l a w → ∃ rest, findLabel c l = some rest ∧ rest.wp P (jumpsTo (fun l' a' w' => J l' a' w' ∧ μ l' a' w' < μ l a w) Q) a w)
    (first : c.wp P (jumpsTo J Q) a w) : (Code.scope c).wp P Q a w := by
  intro b k cs
  have key : ∀ n l a w, μ l a w = n → J l a w → ∃ rest, findLabel c l = some rest ∧ ∃ e a' w', Q e a' w' ∧ Arrives P (lone (b.at a (.code rest :: .inScope c :: k)) cs w) b k cs e a' w' := by
    intro n
    induction n using Nat.strongRecOn with
    | _ n ih =>
      intro l a w hn hJ
      obtain ⟨rest, hf, hp⟩ := pass l a w hJ
      refine ⟨rest, hf, ?_⟩
      obtain ⟨e, a₁, w₁, hq, harr⟩ := hp b (.inScope c :: k) cs
      cases e with
      | normal => exact ⟨.normal, a₁, w₁, hq, Steps.trans harr (.one step_inScope)⟩
      | exit id => exact ⟨.exit id, a₁, w₁, hq, fun k' hk => harr k' (by simp [exitTo, hk])⟩
      | goto l' =>
        obtain ⟨hJ', hlt⟩ := hq
        obtain ⟨rest', hf', e₂, a₂, w₂, hq₂, harr₂⟩ := ih _ (by omega) l' a₁ w₁ rfl hJ'
        have hg : gotoIn l' (.inScope c :: k) = some (.code rest' :: .inScope c :: k) := by simp [gotoIn, hf']
        exact ⟨e₂, a₂, w₂, hq₂, .of_steps (harr _ hg) harr₂⟩
      | ret => exact ⟨_, a₁, w₁, hq, harr⟩
      | panic ch => exact ⟨_, a₁, w₁, hq, harr⟩
      | outgrown => exact ⟨_, a₁, w₁, hq, harr⟩
  obtain ⟨e, a₁, w₁, hq, harr⟩ := first b (.inScope c :: k) cs
  cases e with
  | normal => exact ⟨.normal, a₁, w₁, hq, .head step_scope (Steps.trans harr (.one step_inScope))⟩
  | exit id => exact ⟨.exit id, a₁, w₁, hq, fun k' hk => .head step_scope (harr k' (by simp [exitTo, hk]))⟩
  | goto l' =>
    obtain ⟨rest', hf', e₂, a₂, w₂, hq₂, harr₂⟩ := key _ l' a₁ w₁ rfl hq
    have hg : gotoIn l' (.inScope c :: k) = some (.code rest' :: .inScope c :: k) := by simp [gotoIn, hf']
    exact ⟨e₂, a₂, w₂, hq₂, .of_steps (.head step_scope (harr _ hg)) harr₂⟩
  | ret => exact ⟨_, a₁, w₁, hq, .of_steps (.one step_scope) harr⟩
  | panic ch => exact ⟨_, a₁, w₁, hq, .of_steps (.one step_scope) harr⟩
  | outgrown => exact ⟨_, a₁, w₁, hq, .of_steps (.one step_scope) harr⟩

theorem ofFn_get (t : Array Value) (n : Nat) (h : t.size = n) : t = Array.ofFn (fun i : Fin n => t.getD i undef) := by
  apply Array.ext
  · simp [h]
  · intro i h1 h2
    simp [Array.getD, h1]
set_option maxRecDepth 100000 in
theorem frame122 (t : Array Value) (h : t.size = 122) : ∃ u : Nat → Value, t = #[u 0, u 1, u 2, u 3, u 4, u 5, u 6, u 7, u 8, u 9, u 10, u 11, u 12, u 13, u 14, u 15, u 16, u 17, u 18, u 19, u 20, u 21, u 22, u 23, u 24, u 25, u 26, u 27, u 28, u 29, u 30, u 31, u 32, u 33, u 34, u 35, u 36, u 37, u 38, u 39, u 40, u 41, u 42, u 43, u 44, u 45, u 46, u 47, u 48, u 49, u 50, u 51, u 52, u 53, u 54, u 55, u 56, u 57, u 58, u 59, u 60, u 61, u 62, u 63, u 64, u 65, u 66, u 67, u 68, u 69, u 70, u 71, u 72, u 73, u 74, u 75, u 76, u 77, u 78, u 79, u 80, u 81, u 82, u 83, u 84, u 85, u 86, u 87, u 88, u 89, u 90, u 91, u 92, u 93, u 94, u 95, u 96, u 97, u 98, u 99, u 100, u 101, u 102, u 103, u 104, u 105, u 106, u 107, u 108, u 109, u 110, u 111, u 112, u 113, u 114, u 115, u 116, u 117, u 118, u 119, u 120, u 121] := ⟨fun i => t.getD i undef, (ofFn_get t 122 h).trans (by kernel_rfl)⟩

/-- Is a digit there? -/
def isDg (T : ByteArray) (k : Nat) : Bool := decide (k < T.size) && digB (T.get! k).toNat
theorem isDg_in {T : ByteArray} {k : Nat} (h : k < T.size) : isDg T k = digB T[k].toNat := by
  unfold isDg
  rw [decide_eq_true h, Bool.true_and, get!_eq T k h]
theorem isDg_out {T : ByteArray} {k : Nat} (h : ¬ k < T.size) : isDg T k = false := by
  unfold isDg
  rw [decide_eq_false h, Bool.false_and]
set_option maxRecDepth 100000 in
set_option maxHeartbeats 400000 in
theorem isDigit_any (w : World) (T : ByteArray) (k : Nat) :
    Calls Tryd.prog 80 #[.string T, .int .i64 k] w fun e w' => e = .returned (.bool (isDg T k)) ∧ w = w' := by
  by_cases h : k < T.size
  · rw [isDg_in h]
    refine Or.elim (Decidable.em (48 ≤ (T[k].toNat : Int))) (fun c1 => ?_) (fun c1 => ?_)
    · refine Or.elim (Decidable.em ((T[k].toNat : Int) ≤ 57)) (fun c2 => ?_) (fun c2 => ?_)
      · have hd : digB T[k].toNat = true := decide_eq_true (by omega)
        rw [hd]
        clear hd
        go_enter Tryd.func80, Tryd.ntmps80
        go_wp2
        go_ret
        exact ⟨rfl, rfl⟩
      · have hd : digB T[k].toNat = false := decide_eq_false (by omega)
        rw [hd]
        clear hd
        go_enter Tryd.func80, Tryd.ntmps80
        go_wp2
        go_ret
        exact ⟨by simp, rfl⟩
    · have hd : digB T[k].toNat = false := decide_eq_false (by omega)
      rw [hd]
      clear hd
      go_enter Tryd.func80, Tryd.ntmps80
      go_wp2
      go_ret
      exact ⟨by simp, rfl⟩
  · rw [isDg_out h]
    go_enter Tryd.func80, Tryd.ntmps80
    go_wp2
    go_ret
    exact ⟨by simp, rfl⟩

/-- The world in which Parse reads. -/
def parW (w : World) : World := (w.alloc (.cells #[.bool false, .string ⟨#[]⟩, .int .i64 0] 51)).alloc (.cells #[.int .i64 0, .int .i64 0] 28)
/-- What holds at a label. -/
structure PJ (w : World) (T : ByteArray) (ok : Nat → Nat → Int → Prop) (l : Nat) (a : Act) (wx : World) : Prop where
  df : a.defers = []
  sz : a.tmps.size = 122
  s0 : a.tmps.getD 0 undef = .string T
  s2 : a.tmps.getD 2 undef = .pointer (some ⟨w.heap.size, 0, none⟩)
  s3 : a.tmps.getD 3 undef = .pointer (some ⟨w.heap.size + 1, 0, none⟩)
  s7 : a.tmps.getD 7 undef = .int .i64 0
  ex : ∃ (i : Nat) (pt : Int), a.tmps.getD 5 undef = .int .i64 i ∧ a.tmps.getD 6 undef = .int .i64 pt ∧ ok l i pt ∧ wx = parW w
def posP (l : Nat) (a : Act) (_ : World) : Nat := (if l = 0 ∨ l = 1 then 5000 else if l = 3 then 2000 else 900) - (intOf (a.tmps.getD 5 undef)).toNat - (if l = 0 then 1 else 0)

set_option maxRecDepth 100000 in
set_option maxHeartbeats 4000000 in
theorem dparse_plain (w : World) (T : ByteArray) (a : Nat) (hN : T.size = a) (ha : 1 ≤ a) (ha8 : a ≤ 802) (h1 : ∀ i, i < a → isDg T i = true) (hz : ∀ h : 0 < T.size, (T[0].toNat : Int) = 48 → a = 1)
    (hpre : Lib.hasPrefix T.data.toList [45] = false) (rs : ByteArray) (rsc er : Int)
    (hM : ∀ W, Calls Tryd.prog 73 #[.bool false, .string T, .int .i64 0] W fun e w' => e = .returned (.tuple #[.agg #[.bool false, .string rs, .int .i64 rsc], .int .i64 er]) ∧ Keep [] W w') :
    Calls Tryd.prog 34 #[.string T] w fun e w' => e = .returned (.tuple #[.agg #[.bool false, .string rs, .int .i64 rsc], .agg #[.int .i64 er, .int .i64 0]]) ∧ Keep [] w w' := by
  have HM := fun W => Lib.hid (hM W)
  have HPx : ∀ W, Hid (Calls Tryd.prog 79 #[.string T, .string ⟨#[45]⟩] W fun e w' => e = .returned (.bool false) ∧ W = w') := fun W => (Tryd.strings_HasPrefix T ⟨#[45]⟩ W).mono fun e w' ⟨h1, h2⟩ => ⟨by rw [h1, show Lib.hasPrefix T.data.toList (⟨#[45]⟩ : ByteArray).data.toList = false from hpre], h2.symm⟩
  have HY : ∀ (W : World) (k : Nat), k < a → Hid (Calls Tryd.prog 80 #[.string T, .int .i64 k] W fun e w' => e = .returned (.bool true) ∧ W = w') := fun W k hk => by
    have := isDigit_any W T k
    rwa [h1 k hk] at this
  have HNo : ∀ (W : World), Hid (Calls Tryd.prog 80 #[.string T, .int .i64 a] W fun e w' => e = .returned (.bool false) ∧ W = w') := fun W => by
    have := isDigit_any W T a
    rwa [isDg_out (by omega)] at this
  have HY0 : Hid (Calls Tryd.prog 80 #[.string T, .int .i64 0] (parW w) fun e w' => e = .returned (.bool true) ∧ parW w = w') := HY (parW w) 0 (by omega)
  have hce : ((a : Int) == T.size) = true := by rw [beq_iff_eq, hN]
  have HK : Hid (Keep [] w (parW w)) := ((Keep.refl [] w).alloc _).alloc _
  have HB : Hid (DecAt (parW w) w.heap.size false ⟨#[]⟩ 0) := (Blk.new w 51 _).alloc _
  have HS : Hid (Blk (parW w) (w.heap.size + 1) 28 #[.int .i64 0, .int .i64 0]) := Blk.new' _ _ _ _ (by simp)
  have H1 := Lib.hid h1
  have HNs := Lib.hid hN
  have hNt : T.size ≤ 802 := by omega
  clear hM hpre h1 hN
  go_enter Tryd.func34, Tryd.ntmps34
  go_wp2_with fail
  refine wp_scope_many (PJ w T (fun l i pt => pt = -1 ∧ ((l = 1 ∧ 1 ≤ i ∧ i ≤ a) ∨ (l = 0 ∧ i = a) ∨ (l = 2 ∧ i = a)))) posP ?_ ?_
  · intro l
    rintro ⟨t, df⟩ w1 hJ
    obtain ⟨hdf, hsz, h0, h2, h3, h7, i, pt, h5, h6, hok, rfl⟩ := hJ
    simp only at hdf hsz h0 h2 h3 h5 h6 h7
    subst hdf
    obtain ⟨u, rfl⟩ := frame122 t hsz
    have hu0 : u 0 = .string T := h0
    have hu2 : u 2 = .pointer (some ⟨w.heap.size, 0, none⟩) := h2
    have hu3 : u 3 = .pointer (some ⟨w.heap.size + 1, 0, none⟩) := h3
    have hu5 : u 5 = .int .i64 i := h5
    have hu6 : u 6 = .int .i64 pt := h6
    have hu7 : u 7 = .int .i64 0 := h7
    clear h0 h2 h3 h5 h6 h7 hsz
    rw [hu0, hu2, hu3, hu5, hu6, hu7]
    clear hu0 hu2 hu3 hu5 hu6 hu7
    obtain ⟨rfl, hok⟩ := hok
    rcases hok with ⟨rfl, hi1, hi⟩ | ⟨rfl, rfl⟩ | ⟨rfl, rfl⟩
    · refine ⟨_, rfl, ?_⟩
      refine Or.elim (Decidable.em (i < a)) (fun hlt => ?_) (fun hlt => ?_)
      · have hw : IntKind.i64.wrap ((i : Int) + 1) = (i : Int) + 1 := by simp [IntKind.wrap, IntKind.bits, IntKind.signed]; omega
        have HYi := HY (parW w) i hlt
        go_wp2_with (go_at_call 80; refine HYi.out.mono ?_; rintro e w' ⟨rfl, rfl⟩)
        refine wp_goto ?_
        refine ⟨⟨rfl, rfl, rfl, rfl, rfl, rfl, i + 1, -1, by go_num, rfl, ⟨rfl, .inl ⟨rfl, by omega, by omega⟩⟩, rfl⟩, ?_⟩
        simp [posP, intOf]; omega
      · obtain rfl : i = a := by omega
        have HNa := HNo (parW w)
        go_wp2_with (go_at_call 80; refine HNa.out.mono ?_; rintro e w' ⟨rfl, rfl⟩)
        refine wp_label ?_
        go_wp2
        refine wp_goto ?_
        refine ⟨⟨rfl, rfl, rfl, rfl, rfl, rfl, i, -1, rfl, rfl, ⟨rfl, .inr (.inr ⟨rfl, rfl⟩)⟩, rfl⟩, ?_⟩
        simp [posP, intOf]; omega
    · refine ⟨_, rfl, ?_⟩
      go_wp2
      refine wp_goto ?_
      refine ⟨⟨rfl, rfl, rfl, rfl, rfl, rfl, i, -1, rfl, rfl, ⟨rfl, .inr (.inr ⟨rfl, rfl⟩)⟩, rfl⟩, ?_⟩
      simp [posP, intOf]; omega
    · refine ⟨_, rfl, ?_⟩
      go_wp2_with (first | (go_at_call 73; refine (HM _).out.mono ?_; rintro e w5 ⟨rfl, hk⟩; have HB5 := Lib.hid (HB.out.keep hk (by simp)); have HS5 := Lib.hid (HS.out.keep hk (by simp)); have HK5 := Lib.hid (HK.out.nil hk); clear hk; have hl0 : w.heap.size < w5.heap.size := Blk.lt HB5.out; have hl1 : w.heap.size + 1 < w5.heap.size := Blk.lt HS5.out; obtain ⟨n0, n1, n2, nf⟩ := DecAt.all HB5.out; obtain ⟨m0, m1, mf⟩ := (⟨Blk.cell_eq HS5.out rfl, Blk.cell_eq HS5.out rfl, Blk.frozen HS5.out⟩ : w5.cell? ⟨w.heap.size + 1, 0, none⟩ = some (.int .i64 0) ∧ w5.cell? ⟨w.heap.size + 1, 1, none⟩ = some (.int .i64 0) ∧ ∀ i, w5.frozen? ⟨w.heap.size + 1, i, none⟩ = false)))
      obtain ⟨c0, c1, c2, _⟩ := DecAt.all (neg := false) (s := rs) (sc := rsc) (Blk.alloc (Blk.far (Blk.far (Blk.set_ (Blk.set_ (Blk.set_ HB5.out 0 (.bool false)) 1 (.string rs)) 2 (.int .i64 rsc)) (p := ⟨w.heap.size + 1, 0, none⟩) (by simp) (.int .i64 er)) (p := ⟨w.heap.size + 1, 1, none⟩) (by simp) (.int .i64 0)) (.cells #[.bool false, .string rs, .int .i64 rsc] 51))
      have hsb := Blk.alloc (Blk.set_ (Blk.set_ (((HS5.out.far (p := ⟨w.heap.size, 0, none⟩) (by simp) (.bool false)).far (p := ⟨w.heap.size, 1, none⟩) (by simp) (.string rs)).far (p := ⟨w.heap.size, 2, none⟩) (by simp) (.int .i64 rsc)) 0 (.int .i64 er)) 1 (.int .i64 0)) (.cells #[.bool false, .string rs, .int .i64 rsc] 51)
      have e0 := hsb.cell_eq (i := 0) (v := .int .i64 er) rfl
      have e1 := hsb.cell_eq (i := 1) (v := .int .i64 0) rfl
      clear hsb
      simp only [jumpsTo]
      refine bodyPost_ret (v := .tuple #[.agg #[.bool false, .string rs, .int .i64 rsc], .agg #[.int .i64 er, .int .i64 0]]) (by generalize World.alloc _ _ = W at c0 c1 c2 e0 e1 ⊢; simp [results, Tryd.results34, go_sem, c0, c1, c2, e0, e1]) rfl ⟨rfl, ?_⟩
      repeat (first | exact HK5.out | refine Keep.setCell ?_ (.inr (Nat.le_refl _)) _ | refine Keep.setCell ?_ (.inr (Nat.le_succ _)) _ | refine Keep.alloc ?_ _)
  · change Code.wp _ _ _ _ (parW w)
    have hT0 : 0 < T.size := by rw [HNs.out]; omega
    refine Or.elim (Decidable.em ((T[0].toNat : Int) = 48)) (fun c0 => ?_) (fun c0 => ?_)
    · have ha1 := hz hT0 c0
      go_wp2_with (first | (go_at_call 79; refine (HPx _).out.mono ?_; rintro e w' ⟨rfl, rfl⟩) | (go_at_call 80; refine HY0.out.mono ?_; rintro e w' ⟨rfl, rfl⟩))
      refine wp_goto ?_
      exact ⟨rfl, rfl, rfl, rfl, rfl, rfl, 1, -1, rfl, rfl, ⟨rfl, .inr (.inl ⟨rfl, ha1.symm⟩)⟩, rfl⟩
    · refine Or.elim (Decidable.em (1 < a)) (fun hlt => ?_) (fun hlt => ?_)
      · have HY1 : Hid (Calls Tryd.prog 80 #[.string T, .int .i64 1] (parW w) fun e w' => e = .returned (.bool true) ∧ parW w = w') := HY (parW w) 1 hlt
        go_wp2_with (first | (go_at_call 79; refine (HPx _).out.mono ?_; rintro e w' ⟨rfl, rfl⟩) | (go_at_call 80; with_reducible refine HY1.out.mono ?_; rintro e w' ⟨rfl, rfl⟩) | (go_at_call 80; with_reducible refine HY0.out.mono ?_; rintro e w' ⟨rfl, rfl⟩))
        refine wp_label ?_
        go_wp2_with (go_at_call 80; with_reducible refine HY1.out.mono ?_; rintro e w' ⟨rfl, rfl⟩)
        refine wp_goto ?_
        exact ⟨rfl, rfl, rfl, rfl, rfl, rfl, 2, -1, rfl, rfl, ⟨rfl, .inl ⟨rfl, by omega, by omega⟩⟩, rfl⟩
      · obtain rfl : a = 1 := by omega
        have HN1 : Hid (Calls Tryd.prog 80 #[.string T, .int .i64 1] (parW w) fun e w' => e = .returned (.bool false) ∧ parW w = w') := HNo (parW w)
        have hc1 : ((1 : Int) == T.size) = true := hce
        go_wp2_with (first | (go_at_call 79; refine (HPx _).out.mono ?_; rintro e w' ⟨rfl, rfl⟩) | (go_at_call 80; with_reducible refine HN1.out.mono ?_; rintro e w' ⟨rfl, rfl⟩) | (go_at_call 80; with_reducible refine HY0.out.mono ?_; rintro e w' ⟨rfl, rfl⟩))
        refine wp_label ?_
        go_wp2_with (go_at_call 80; with_reducible refine HN1.out.mono ?_; rintro e w' ⟨rfl, rfl⟩)
        refine wp_label ?_
        go_wp2
        refine wp_goto ?_
        exact ⟨rfl, rfl, rfl, rfl, rfl, rfl, 1, -1, rfl, rfl, ⟨rfl, .inr (.inr ⟨rfl, rfl⟩)⟩, rfl⟩

set_option maxRecDepth 100000 in
set_option maxHeartbeats 4000000 in
theorem dparse_point (w : World) (T : ByteArray) (a : Nat) (ha : 1 ≤ a) (haN : a + 1 < T.size) (hN8 : T.size ≤ 802) (h1 : ∀ i, i < a → isDg T i = true) (hz : ∀ h : 0 < T.size, (T[0].toNat : Int) = 48 → a = 1)
    (hdot : ∀ h : a < T.size, (T[a].toNat : Int) = 46) (h2 : ∀ i, a < i → i < T.size → isDg T i = true)
    (hpre : Lib.hasPrefix T.data.toList [45] = false) (rs : ByteArray) (rsc er : Int) (Dg : ByteArray) (sc : Nat) (hDg : T.extract 0 a ++ T.extract (a + 1) T.size = Dg) (hsc : T.size - a - 1 = sc)
    (hM : ∀ W, Calls Tryd.prog 73 #[.bool false, .string Dg, .int .i64 sc] W fun e w' => e = .returned (.tuple #[.agg #[.bool false, .string rs, .int .i64 rsc], .int .i64 er]) ∧ Keep [] W w') :
    Calls Tryd.prog 34 #[.string T] w fun e w' => e = .returned (.tuple #[.agg #[.bool false, .string rs, .int .i64 rsc], .agg #[.int .i64 er, .int .i64 0]]) ∧ Keep [] w w' := by
  have HM := fun W => Lib.hid (hM W)
  have HPx : ∀ W, Hid (Calls Tryd.prog 79 #[.string T, .string ⟨#[45]⟩] W fun e w' => e = .returned (.bool false) ∧ W = w') := fun W => (Tryd.strings_HasPrefix T ⟨#[45]⟩ W).mono fun e w' ⟨h1, h2⟩ => ⟨by rw [h1, show Lib.hasPrefix T.data.toList (⟨#[45]⟩ : ByteArray).data.toList = false from hpre], h2.symm⟩
  have hlta : a < T.size := by omega
  have hda := hdot hlta
  have HY : ∀ (W : World) (k : Nat), k < T.size → k ≠ a → Hid (Calls Tryd.prog 80 #[.string T, .int .i64 k] W fun e w' => e = .returned (.bool true) ∧ W = w') := fun W k hk hka => by
    have := isDigit_any W T k
    by_cases hk2 : k < a
    · rwa [h1 k hk2] at this
    · rwa [h2 k (by omega) hk] at this
  have HNo : ∀ (W : World), Hid (Calls Tryd.prog 80 #[.string T, .int .i64 a] W fun e w' => e = .returned (.bool false) ∧ W = w') := fun W => by
    have := isDigit_any W T a
    rw [isDg_in hlta] at this
    have hf : digB T[a].toNat = false := decide_eq_false (by omega)
    rwa [hf] at this
  have HNe : ∀ (W : World) (k : Nat), T.size ≤ k → Hid (Calls Tryd.prog 80 #[.string T, .int .i64 k] W fun e w' => e = .returned (.bool false) ∧ W = w') := fun W k hk => by
    have := isDigit_any W T k
    rwa [isDg_out (by omega)] at this
  have HY0 : Hid (Calls Tryd.prog 80 #[.string T, .int .i64 0] (parW w) fun e w' => e = .returned (.bool true) ∧ parW w = w') := HY (parW w) 0 (by omega) (by omega)
  have HYa : Hid (Calls Tryd.prog 80 #[.string T, .int .i64 ((a : Int) + 1)] (parW w) fun e w' => e = .returned (.bool true) ∧ parW w = w') := HY (parW w) (a + 1) (by omega) (by omega)
  have hce : ((a : Int) == T.size) = false := by rw [beq_eq_false_iff_ne]; omega
  have hwa1 : IntKind.i64.wrap ((a : Int) + 1) = (a : Int) + 1 := by simp [IntKind.wrap, IntKind.bits, IntKind.signed]; omega
  have hwa2 : IntKind.i64.wrap ((a : Int) + 1 + 1) = (a : Int) + 1 + 1 := by simp [IntKind.wrap, IntKind.bits, IntKind.signed]; omega
  have hws1 : IntKind.i64.wrap ((T.size : Int) - a) = (T.size : Int) - a := by simp [IntKind.wrap, IntKind.bits, IntKind.signed]; omega
  have hws2 : IntKind.i64.wrap ((T.size : Int) - a - 1) = sc := by simp [IntKind.wrap, IntKind.bits, IntKind.signed]; omega
  have hA : ∀ W, (Op.stringOp .add (T.extract 0 a) (T.extract (a + 1) T.size)).run Tryd.prog W = .ok (.string Dg) W := fun W => by
    rw [← hDg]
    exact run_string_add_sum W _ _ (by rw [ByteArray.size_extract, ByteArray.size_extract]; omega)
  have HK : Hid (Keep [] w (parW w)) := ((Keep.refl [] w).alloc _).alloc _
  have HB : Hid (DecAt (parW w) w.heap.size false ⟨#[]⟩ 0) := (Blk.new w 51 _).alloc _
  have HS : Hid (Blk (parW w) (w.heap.size + 1) 28 #[.int .i64 0, .int .i64 0]) := Blk.new' _ _ _ _ (by simp)
  clear hM hpre h1 h2 hdot hDg hsc
  go_enter Tryd.func34, Tryd.ntmps34
  go_wp2_with fail
  refine wp_scope_many (PJ w T (fun l i pt => (l = 1 ∧ 1 ≤ i ∧ i ≤ a ∧ pt = -1) ∨ (l = 0 ∧ i = a ∧ pt = -1) ∨ (l = 3 ∧ a + 2 ≤ i ∧ i ≤ T.size ∧ pt = a))) posP ?_ ?_
  · intro l
    rintro ⟨t, df⟩ w1 hJ
    obtain ⟨hdf, hsz, h0, h2, h3, h7, i, pt, h5, h6, hok, rfl⟩ := hJ
    simp only at hdf hsz h0 h2 h3 h5 h6 h7
    subst hdf
    obtain ⟨u, rfl⟩ := frame122 t hsz
    have hu0 : u 0 = .string T := h0
    have hu2 : u 2 = .pointer (some ⟨w.heap.size, 0, none⟩) := h2
    have hu3 : u 3 = .pointer (some ⟨w.heap.size + 1, 0, none⟩) := h3
    have hu5 : u 5 = .int .i64 i := h5
    have hu6 : u 6 = .int .i64 pt := h6
    have hu7 : u 7 = .int .i64 0 := h7
    clear h0 h2 h3 h5 h6 h7 hsz
    rw [hu0, hu2, hu3, hu5, hu6, hu7]
    clear hu0 hu2 hu3 hu5 hu6 hu7
    rcases hok with ⟨rfl, hi1, hi, rfl⟩ | ⟨rfl, rfl, rfl⟩ | ⟨rfl, hi1, hi, rfl⟩
    · refine ⟨_, rfl, ?_⟩
      refine Or.elim (Decidable.em (i < a)) (fun hlt => ?_) (fun hlt => ?_)
      · have hw : IntKind.i64.wrap ((i : Int) + 1) = (i : Int) + 1 := by simp [IntKind.wrap, IntKind.bits, IntKind.signed]; omega
        have HYi := HY (parW w) i (by omega) (by omega)
        go_wp2_with (go_at_call 80; refine HYi.out.mono ?_; rintro e w' ⟨rfl, rfl⟩)
        refine wp_goto ?_
        refine ⟨⟨rfl, rfl, rfl, rfl, rfl, rfl, i + 1, -1, by go_num, rfl, .inl ⟨rfl, by omega, by omega, rfl⟩, rfl⟩, ?_⟩
        simp [posP, intOf]; omega
      · obtain rfl : i = a := by omega
        have HNa := HNo (parW w)
        go_wp2_with (go_at_call 80; refine HNa.out.mono ?_; rintro e w' ⟨rfl, rfl⟩)
        refine wp_label ?_
        go_wp2_with (go_at_call 80; with_reducible refine HYa.out.mono ?_; rintro e w' ⟨rfl, rfl⟩)
        refine wp_label ?_
        go_wp2_with (go_at_call 80; with_reducible refine HYa.out.mono ?_; rintro e w' ⟨rfl, rfl⟩)
        refine wp_goto ?_
        refine ⟨⟨rfl, rfl, rfl, rfl, rfl, rfl, i + 2, i, by go_num, rfl, .inr (.inr ⟨rfl, by omega, by omega, rfl⟩), rfl⟩, ?_⟩
        simp [posP, intOf]; omega
    · refine ⟨_, rfl, ?_⟩
      go_wp2_with (go_at_call 80; with_reducible refine HYa.out.mono ?_; rintro e w' ⟨rfl, rfl⟩)
      refine wp_label ?_
      go_wp2_with (go_at_call 80; with_reducible refine HYa.out.mono ?_; rintro e w' ⟨rfl, rfl⟩)
      refine wp_goto ?_
      refine ⟨⟨rfl, rfl, rfl, rfl, rfl, rfl, i + 2, i, by go_num, rfl, .inr (.inr ⟨rfl, by omega, by omega, rfl⟩), rfl⟩, ?_⟩
      simp [posP, intOf]; omega
    · refine ⟨_, rfl, ?_⟩
      refine Or.elim (Decidable.em (i < T.size)) (fun hlt => ?_) (fun hlt => ?_)
      · have hw : IntKind.i64.wrap ((i : Int) + 1) = (i : Int) + 1 := by simp [IntKind.wrap, IntKind.bits, IntKind.signed]; omega
        have HYi := HY (parW w) i hlt (by omega)
        go_wp2_with (go_at_call 80; refine HYi.out.mono ?_; rintro e w' ⟨rfl, rfl⟩)
        refine wp_goto ?_
        refine ⟨⟨rfl, rfl, rfl, rfl, rfl, rfl, i + 1, a, by go_num, rfl, .inr (.inr ⟨rfl, by omega, by omega, rfl⟩), rfl⟩, ?_⟩
        simp [posP, intOf]; omega
      · have HNi := HNe (parW w) i (by omega)
        have hnl : ¬ (i : Int) < T.size := by omega
        go_wp2_with (go_at_call 80; refine HNi.out.mono ?_; rintro e w' ⟨rfl, rfl⟩)
        refine wp_label ?_
        go_upto_region 27 with fail
        go_quiet (fail)
        have HKq := Lib.hid (HK.out.drewN nq)
        have HBq := Lib.hid (Blk.drewN HB.out nq)
        have HSq := Lib.hid (Blk.drewN HS.out nq)
        go_wp2_with (first | (go_at_call 73; refine (HM _).out.mono ?_; rintro e w5 ⟨rfl, hk⟩; have HB5 := Lib.hid (HBq.out.keep hk (by simp)); have HS5 := Lib.hid (HSq.out.keep hk (by simp)); have HK5 := Lib.hid (HKq.out.nil hk); clear hk; have hl0 : w.heap.size < w5.heap.size := Blk.lt HB5.out; have hl1 : w.heap.size + 1 < w5.heap.size := Blk.lt HS5.out; obtain ⟨n0, n1, n2, nf⟩ := DecAt.all HB5.out; obtain ⟨m0, m1, mf⟩ := (⟨Blk.cell_eq HS5.out rfl, Blk.cell_eq HS5.out rfl, Blk.frozen HS5.out⟩ : w5.cell? ⟨w.heap.size + 1, 0, none⟩ = some (.int .i64 0) ∧ w5.cell? ⟨w.heap.size + 1, 1, none⟩ = some (.int .i64 0) ∧ ∀ i, w5.frozen? ⟨w.heap.size + 1, i, none⟩ = false)))
        obtain ⟨c0, c1, c2, _⟩ := DecAt.all (neg := false) (s := rs) (sc := rsc) (Blk.alloc (Blk.far (Blk.far (Blk.set_ (Blk.set_ (Blk.set_ HB5.out 0 (.bool false)) 1 (.string rs)) 2 (.int .i64 rsc)) (p := ⟨w.heap.size + 1, 0, none⟩) (by simp) (.int .i64 er)) (p := ⟨w.heap.size + 1, 1, none⟩) (by simp) (.int .i64 0)) (.cells #[.bool false, .string rs, .int .i64 rsc] 51))
        have hsb := Blk.alloc (Blk.set_ (Blk.set_ (((HS5.out.far (p := ⟨w.heap.size, 0, none⟩) (by simp) (.bool false)).far (p := ⟨w.heap.size, 1, none⟩) (by simp) (.string rs)).far (p := ⟨w.heap.size, 2, none⟩) (by simp) (.int .i64 rsc)) 0 (.int .i64 er)) 1 (.int .i64 0)) (.cells #[.bool false, .string rs, .int .i64 rsc] 51)
        have e0 := hsb.cell_eq (i := 0) (v := .int .i64 er) rfl
        have e1 := hsb.cell_eq (i := 1) (v := .int .i64 0) rfl
        clear hsb
        simp only [jumpsTo]
        refine bodyPost_ret (v := .tuple #[.agg #[.bool false, .string rs, .int .i64 rsc], .agg #[.int .i64 er, .int .i64 0]]) (by generalize World.alloc _ _ = W at c0 c1 c2 e0 e1 ⊢; simp [results, Tryd.results34, go_sem, c0, c1, c2, e0, e1]) rfl ⟨rfl, ?_⟩
        repeat (first | exact HK5.out | refine Keep.setCell ?_ (.inr (Nat.le_refl _)) _ | refine Keep.setCell ?_ (.inr (Nat.le_succ _)) _ | refine Keep.alloc ?_ _)
  · change Code.wp _ _ _ _ (parW w)
    have hT0 : 0 < T.size := by omega
    refine Or.elim (Decidable.em ((T[0].toNat : Int) = 48)) (fun c0 => ?_) (fun c0 => ?_)
    · have ha1 := hz hT0 c0
      go_wp2_with (first | (go_at_call 79; refine (HPx _).out.mono ?_; rintro e w' ⟨rfl, rfl⟩) | (go_at_call 80; refine HY0.out.mono ?_; rintro e w' ⟨rfl, rfl⟩))
      refine wp_goto ?_
      exact ⟨rfl, rfl, rfl, rfl, rfl, rfl, 1, -1, rfl, rfl, .inr (.inl ⟨rfl, ha1.symm, rfl⟩), rfl⟩
    · refine Or.elim (Decidable.em (1 < a)) (fun hlt => ?_) (fun hlt => ?_)
      · have HY1 : Hid (Calls Tryd.prog 80 #[.string T, .int .i64 1] (parW w) fun e w' => e = .returned (.bool true) ∧ parW w = w') := HY (parW w) 1 (by omega) (by omega)
        go_wp2_with (first | (go_at_call 79; refine (HPx _).out.mono ?_; rintro e w' ⟨rfl, rfl⟩) | (go_at_call 80; with_reducible refine HY0.out.mono ?_; rintro e w' ⟨rfl, rfl⟩))
        refine wp_label ?_
        go_wp2_with (go_at_call 80; with_reducible refine HY1.out.mono ?_; rintro e w' ⟨rfl, rfl⟩)
        refine wp_goto ?_
        exact ⟨rfl, rfl, rfl, rfl, rfl, rfl, 2, -1, rfl, rfl, .inl ⟨rfl, by omega, by omega, rfl⟩, rfl⟩
      · obtain rfl : a = 1 := by omega
        have HN1 : Hid (Calls Tryd.prog 80 #[.string T, .int .i64 1] (parW w) fun e w' => e = .returned (.bool false) ∧ parW w = w') := HNo (parW w)
        have HYa' : Hid (Calls Tryd.prog 80 #[.string T, .int .i64 2] (parW w) fun e w' => e = .returned (.bool true) ∧ parW w = w') := HYa
        have hc1 : ((1 : Int) == T.size) = false := hce
        go_wp2_with (first | (go_at_call 79; refine (HPx _).out.mono ?_; rintro e w' ⟨rfl, rfl⟩) | (go_at_call 80; with_reducible refine HY0.out.mono ?_; rintro e w' ⟨rfl, rfl⟩))
        refine wp_label ?_
        go_wp2_with (go_at_call 80; with_reducible refine HN1.out.mono ?_; rintro e w' ⟨rfl, rfl⟩)
        refine wp_label ?_
        go_wp2_with (go_at_call 80; with_reducible refine HYa'.out.mono ?_; rintro e w' ⟨rfl, rfl⟩)
        refine wp_label ?_
        go_wp2_with (go_at_call 80; with_reducible refine HYa'.out.mono ?_; rintro e w' ⟨rfl, rfl⟩)
        refine wp_goto ?_
        exact ⟨rfl, rfl, rfl, rfl, rfl, rfl, 3, 1, rfl, rfl, .inr (.inr ⟨rfl, by omega, by omega, rfl⟩), rfl⟩
end Go.Proofs.YtkkglaglnfebjaaDoor
