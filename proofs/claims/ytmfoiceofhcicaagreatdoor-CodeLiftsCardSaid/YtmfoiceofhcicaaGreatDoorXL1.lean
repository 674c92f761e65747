/- Walks: vernacularref20: put, texts: the texts as they are met, each once. Walks: sort.Strings over texts of the call's own; vernacularref20.Texts. Walks: vernacularref01.Low: the least byte first. Walks: vernacularref20: a text's number put behind. Walks: vernacularref20: a place put into four bytes. Walks: vernacularref20: the instructions of parts. Walks: vernacularref20: the instructions of a choice. Walks: vernacularref20: two and four with an explicit frame. Walks: vernacularref20.Code is the code of a message. -/
import Derived.Test.YtmfoiceofhcicaaGreatDoorKU
import Derived.Test.YtmfoiceofhcicaaGreatDoorXKD
import Derived.Test.YtmfoiceofhcicaaGreatDoorXKA
import Derived.Laws.CopyOwn
namespace Go.Proofs.YtmfoiceofhcicaaGreatDoor
open Go.RowKit Go.IntWalk

/-- A text put behind unlike ones. -/
def putT (r : List ByteArray) (s : ByteArray) : List ByteArray := if r.any (fun x => decide (x = s)) = true then r else r ++ [s]
theorem anyT {r : List ByteArray} {s : ByteArray} : r.any (fun x => decide (x = s)) = true ↔ s ∈ r := by
  rw [List.any_eq_true]
  constructor
  · rintro ⟨x, hx, e⟩
    rw [decide_eq_true_iff] at e
    exact e ▸ hx
  · exact fun h => ⟨s, h, by simp⟩
theorem putT_in {r : List ByteArray} {s : ByteArray} (h : s ∈ r) : putT r s = r := if_pos (anyT.2 h)
theorem putT_out {r : List ByteArray} {s : ByteArray} (h : s ∉ r) : putT r s = r ++ [s] := if_neg fun h2 => h (anyT.1 h2)
def putsT (r ts : List ByteArray) : List ByteArray := ts.foldl putT r
theorem putT_mem {r : List ByteArray} {s y : ByteArray} : y ∈ putT r s ↔ y = s ∨ y ∈ r := by
  unfold putT
  split
  · rename_i h
    exact ⟨.inr, fun h2 => h2.elim (fun e => e ▸ anyT.1 h) id⟩
  · rw [List.mem_append, List.mem_singleton]
    exact Or.comm
theorem putT_nodup {r : List ByteArray} {s : ByteArray} (h : r.Nodup) : (putT r s).Nodup := by
  unfold putT
  split
  · exact h
  · rename_i hs
    rw [List.nodup_append]
    exact ⟨h, by simp, fun a ha b hb e => hs (anyT.2 (by rw [List.mem_singleton] at hb; rw [← hb, ← e]; exact ha))⟩
theorem putT_len (r : List ByteArray) (s : ByteArray) : (putT r s).length ≤ r.length + 1 := by
  unfold putT
  split
  · omega
  · simp
theorem putsT_mem {y : ByteArray} : ∀ {ts r : List ByteArray}, y ∈ putsT r ts ↔ y ∈ ts ∨ y ∈ r
  | [], r => by simp [putsT]
  | s :: ts, r => by
    show y ∈ putsT (putT r s) ts ↔ _
    rw [putsT_mem, putT_mem, List.mem_cons]
    constructor
    · rintro (h | h | h)
      · exact .inl (.inr h)
      · exact .inl (.inl h)
      · exact .inr h
    · rintro ((h | h) | h)
      · exact .inr (.inl h)
      · exact .inl h
      · exact .inr (.inr h)
theorem putsT_nodup : ∀ {ts r : List ByteArray}, r.Nodup → (putsT r ts).Nodup
  | [], _, h => h
  | s :: ts, r, h => by
    show (putsT (putT r s) ts).Nodup
    exact putsT_nodup (putT_nodup h)
theorem putsT_len : ∀ (ts r : List ByteArray), (putsT r ts).length ≤ r.length + ts.length
  | [], r => by simp [putsT]
  | s :: ts, r => by
    show (putsT (putT r s) ts).length ≤ _
    have h1 := putsT_len ts (putT r s)
    have h2 := putT_len r s
    rw [List.length_cons]
    omega
theorem putsT_append (r a b : List ByteArray) : putsT r (a ++ b) = putsT (putsT r a) b := List.foldl_append
/-- Put and sorted they are the pool. -/
theorem puts_pool (ts : List ByteArray) : ((putsT [] ts).map fun s => s.data.toList).mergeSort (fun x y => decide (x ≤ y)) = (poolF ts).map fun s => s.data.toList := by
  obtain ⟨ss, hss⟩ : ∃ ss, (putsT [] ts).map (fun s => s.data.toList) = ss := ⟨_, rfl⟩
  have hnd : ss.Nodup := by
    rw [← hss]
    unfold List.Nodup
    rw [List.pairwise_map]
    refine List.Pairwise.imp (fun {a b} hne e => hne ?_) (putsT_nodup (ts := ts) (r := []) List.nodup_nil)
    cases a
    cases b
    simp only [ByteArray.mk.injEq]
    exact Array.toList_inj.1 e
  rw [hss]
  obtain ⟨R, hR⟩ : ∃ R, ss.mergeSort (fun x y => decide (x ≤ y)) = R := ⟨_, rfl⟩
  have hpR : R.Perm ss := by rw [← hR]; exact List.mergeSort_perm ss _
  have hsR : R.Pairwise fun a b => decide (a ≤ b) = true := by
    rw [← hR]
    refine List.pairwise_mergeSort (fun a b c h1 h2 => ?_) (fun a b => ?_) ss
    · rw [decide_eq_true_iff] at *
      exact List.le_trans h1 h2
    · rw [Bool.or_eq_true, decide_eq_true_iff, decide_eq_true_iff]
      exact List.le_total a b
  have hnR : R.Nodup := hpR.nodup_iff.2 hnd
  have hrise : RiseT (R.map fun l => (⟨l.toArray⟩ : ByteArray)) := by
    unfold RiseT
    rw [List.pairwise_map]
    refine (hsR.and hnR).imp fun {a b} ⟨h1, h2⟩ => ?_
    unfold kLt
    rw [decide_eq_true_iff]
    show (a.toArray).toList < (b.toArray).toList
    rw [decide_eq_true_iff] at h1
    show a < b
    rcases Classical.em (a < b) with h | h
    · exact h
    · exact absurd (List.le_antisymm h1 (List.not_lt.1 h)) h2
  have hmem : ∀ x, x ∈ R.map (fun l => (⟨l.toArray⟩ : ByteArray)) ↔ x ∈ poolF ts := fun x => by
    have h1 : x ∈ ts ↔ x ∈ putsT [] ts := by rw [putsT_mem]; simp
    rw [pool_mem, h1, List.mem_map]
    constructor
    · rintro ⟨l, hl, rfl⟩
      have h2 := hpR.mem_iff.1 hl
      rw [← hss, List.mem_map] at h2
      obtain ⟨s, hs, rfl⟩ := h2
      simpa using hs
    · intro h
      exact ⟨x.data.toList, hpR.mem_iff.2 (by rw [← hss]; exact List.mem_map_of_mem h), by simp⟩
  have := riseT_unique hrise (pool_rise ts) hmem
  rw [hR, ← this, List.map_map]
  symm
  conv => rhs; rw [← List.map_id R]
  apply List.map_congr_left
  intro l _
  simp
set_option maxRecDepth 100000 in
set_option maxHeartbeats 4000000 in
/-- vernacularref20.put. -/
theorem put20_any (w : World) (B : Nat) (v : Value) (l : List ByteArray) (s : ByteArray) (h : OwnS w B v l) (hB : B ≤ w.heap.size) (hl : l.length ≤ 1000000000) :
    Calls Tryz.prog 64 #[v, .string s] w fun e w' => ∃ A c, e = .returned (.slice A (putT l s).length c) ∧ OwnS w' B (.slice A (putT l s).length c) (putT l s) ∧ Keep v.ownBlock.toList w w' := by
  obtain ⟨A, cap, rfl⟩ := h.form
  have HO := Lib.hid h
  clear h
  go_enter Tryz.func64, Tryz.ntmps64
  go_wp2
  go_loopw [9] (fun i wr => ∃ k : Nat, k ≤ l.length ∧ i = .int .i64 k ∧ wr = w ∧ s ∉ l.take k) (fun i _ => l.length - (intOf i).toNat)
  case atStart => exact ⟨0, Nat.zero_le _, rfl, rfl, by simp⟩
  case round =>
    obtain ⟨k, hk, rfl, rfl, hn⟩ := hrel
    have HN := Lib.hid hn
    clear hn
    by_cases hlt : k < l.length
    · obtain ⟨t, ht⟩ : ∃ t, l[k]? = some t := ⟨_, List.getElem?_eq_getElem hlt⟩
      obtain ⟨b, cap2, he, hc⟩ := HO.out.at ht
      injection he with e1 e2 e3
      subst e1 e3
      have hbe := bytes_beq t s
      have HT := Lib.hid ht
      clear ht
      by_cases hts : t = s
      · rw [decide_eq_true hts] at hbe
        have HP : Hid (putT l s = l) := by exact putT_in (by rw [← hts]; exact List.mem_of_getElem? HT.out)
        clear hts
        go_wp2
        go_ret
        rw [HP.out]
        exact ⟨_, _, rfl, HO.out, Keep.refl _ _⟩
      · rw [decide_eq_false hts] at hbe
        have HN2 : Hid (s ∉ l.take (k + 1)) := by
          unfold Hid
          rw [take_snoc' HT.out, List.mem_append, List.mem_singleton]
          rintro (h | h)
          · exact HN.out h
          · exact hts h.symm
        clear hts
        go_wp2
        go_roundw
        case rel => exact ⟨k + 1, by omega, by go_num, by first | trivial | rfl, HN2.out⟩
        case measure => simp [intOf]; omega
    · obtain rfl : k = l.length := by omega
      have hn := HN.out
      rw [List.take_length] at hn
      have HP : Hid (putT l s = l ++ [s]) := by exact putT_out hn
      clear hn
      go_wp2_with (at_builtin; refine wpList_append_t rfl _ _ rfl rfl HO.out s rfl hl hB ?_; intro A5 c5 w5 ho5 hk5)
      go_ret
      rw [HP.out]
      rw [List.length_append, List.length_singleton]
      exact ⟨_, _, rfl, ho5, hk5⟩
theorem plain_kinds {p : PT} {h : Bool} (hp : plainB p h = true) : p.k = 1 ∨ p.k = 2 ∨ p.k = 3 ∨ p.k = 4 ∨ p.k = 5 ∨ p.k = 6 := by
  unfold plainB at hp
  by_cases h1 : p.k = 1
  · exact .inl h1
  · rw [if_neg h1] at hp
    by_cases h2 : p.k = 2
    · exact .inr (.inl h2)
    · rw [if_neg h2] at hp
      by_cases h3 : p.k = 3
      · exact .inr (.inr (.inl h3))
      · rw [if_neg h3] at hp
        by_cases h4 : p.k = 4 ∨ p.k = 5 ∨ p.k = 6
        · exact .inr (.inr (.inr h4))
        · rw [if_neg h4] at hp
          cases hp
/-- Blocks of another type than texts' stay. -/
abbrev BKt (w w' : World) : Prop := ∀ (x : Nat) (t : TypeId) (cs : Array Value), Blk w x t cs → 9 ≠ t → Blk w' x t cs
theorem BKt.refl (w : World) : BKt w w := fun _ _ _ h _ => h
theorem BKt.trans {a b c : World} (h : BKt a b) (h2 : BKt b c) : BKt a c := fun x t cs hx hn => h2 x t cs (h x t cs hx hn) hn
theorem BKt.of {a b : World} (h : Keep [] a b) : BKt a b := fun _ _ _ hx _ => hx.keep h (by simp)
/-- put, seen from a world ahead. -/
abbrev PutW (w0 : World) : Prop := ∀ (W : World) (A : Option Addr) (c : Nat) (a : List ByteArray) (s : ByteArray), Keep [] w0 W → OwnS W w0.heap.size (.slice A a.length c) a → a.length ≤ 1000000000 →
  Calls Tryz.prog 64 #[.slice A a.length c, .string s] W fun e w' => ∃ A2 c2, e = .returned (.slice A2 (putT a s).length c2) ∧ OwnS w' w0.heap.size (.slice A2 (putT a s).length c2) (putT a s) ∧ Keep [] w0 w' ∧ BKt W w'
theorem putW (w0 : World) : PutW w0 := fun W A c a s hW hO ha => by
  refine (put20_any W _ _ a s hO hW.size ha).mono ?_
  rintro e w' ⟨A2, c2, h1, h2, h3⟩
  exact ⟨A2, c2, h1, h2, hW.trans h3 (fun x hx => .inr (hO.lt x hx).1), fun x t cs hx hne => hx.keep h3 fun hc => own_blk_ne hO hx hne (by simpa using hc)⟩
def TxR (n : Nat) : Prop := ∀ (l : List PT) (h : Bool) (S : Nat → Prop) (v : Value) (A : Option Addr) (c : Nat) (a : List ByteArray) (w0 w : World), rightF n l h = true → Lies n S w0 v l → Keep [] w0 w → OwnS w w0.heap.size (.slice A a.length c) a → a.length + bulkF n l ≤ 1000000000 →
  Calls Tryz.prog 42 #[.slice A a.length c, v] w fun e w' => ∃ A2 c2, e = .returned (.slice A2 (putsT a (textF n l)).length c2) ∧ OwnS w' w0.heap.size (.slice A2 (putsT a (textF n l)).length c2) (putsT a (textF n l)) ∧ Keep [] w0 w' ∧ BKt w w'
set_option maxRecDepth 100000 in
set_option maxHeartbeats 4000000 in
theorem texts20_step (n : Nat) (ih : TxR n) : TxR (n + 1) := by
  intro l h S v A0 c0 a0 w0 w hr hL hK0 hO hb
  obtain ⟨A, cap, rfl, hml, hat⟩ := lies_open hL
  have HAT := Lib.hid hat
  have HIH := Lib.hid ih
  have HO0 := Lib.hid hO
  have HK0 := Lib.hid hK0
  have HPW := Lib.hid (putW w0)
  have HRT : Hid (rightL (rightF n) h 0 l = true) := hr
  have hll : l.length ≤ 1000000000 := by have := bulkL_len (bulkF n) l; simp only [bulkF] at hb; omega
  have HB : Hid (a0.length + bulkL (bulkF n) l ≤ 1000000000) := hb
  clear hL hat hml hb hO ih hK0 hr
  go_enter Tryz.func42, Tryz.ntmps42
  go_wp2
  go_loopw [0, 11] (fun uv i wr => ∃ k : Nat, k ≤ l.length ∧ i = .int .i64 k ∧ OwnS wr w0.heap.size uv (putsT a0 (textL (textF n) (l.take k))) ∧ Keep [] w0 wr ∧ BKt w wr) (fun _ i _ => l.length - (intOf i).toNat)
  case atStart => exact ⟨0, Nat.zero_le _, rfl, HO0.out, HK0.out, BKt.refl _⟩
  case round =>
    obtain ⟨k, hk, rfl, hO, hK, hBK⟩ := hrel
    have HK := Lib.hid hK
    have HBK := Lib.hid hBK
    obtain ⟨Au, cu, rfl⟩ := hO.form
    have HO := Lib.hid hO
    clear hK hO hBK
    by_cases hlt : k < l.length
    · obtain ⟨p, hp⟩ : ∃ p, l[k]? = some p := ⟨_, List.getElem?_eq_getElem hlt⟩
      obtain ⟨bb, o, cv, rfl, hbb, hP, hC⟩ := HAT.out k p hp
      obtain ⟨y0, y1, y2, y3, y4, y5, y6⟩ := hP.keepB HK.out hbb (by simp)
      obtain ⟨Ac, cc, rfl, _, hcat⟩ := liesC_open hC
      have HCAT := Lib.hid hcat
      have hpr := rightL_mem HRT.out (List.mem_of_getElem? hp)
      have hpk := plain_kinds hpr.1
      have HPR := Lib.hid hpr.2
      have HS1 : Hid (putsT a0 (textL (textF n) (l.take (k + 1))) = putsT (putsT a0 (textL (textF n) (l.take k))) (partT (textF n) p)) := by unfold Hid; rw [textL_take hp, putsT_append]
      have hln : (putsT a0 (textL (textF n) (l.take k))).length + (1 + p.tx.size + p.nm.size + p.ty.size + p.st.size + bulkC (bulkF n) p.cs) ≤ 1000000000 := by
        have g1 := putsT_len (textL (textF n) (l.take k)) a0
        have g2 := textL_bulk (K := bulkF n) (U := textF n) (textF_bulk n) (l.take k)
        have g3 := bulkL_takeS (K := bulkF n) hp
        have g4 := bulkL_take_le (bulkF n) l (k + 1)
        have g5 := HB.out
        omega
      obtain ⟨a1, ha1⟩ : ∃ a1, putsT a0 (textL (textF n) (l.take k)) = a1 := ⟨_, rfl⟩
      rw [ha1] at HO HS1 hln
      rw [ha1]
      have hbr := Nat.lt_of_lt_of_le hbb HK.out.size
      clear hP hC hcat hpr hp ha1
      go_upto_region 5 with fail
      have hX : Blk (wr.alloc (.cells #[.int .i64 p.k, .string p.tx, .string p.nm, .string p.ty, .string p.st, .int .i64 p.off, .slice Ac p.cs.length cc] 68)) wr.heap.size 68 #[.int .i64 p.k, .string p.tx, .string p.nm, .string p.ty, .string p.st, .int .i64 p.off, .slice Ac p.cs.length cc] := Blk.new _ _ _
      have hkx : Keep [] wr (wr.alloc (.cells #[.int .i64 p.k, .string p.tx, .string p.nm, .string p.ty, .string p.st, .int .i64 p.off, .slice Ac p.cs.length cc] 68)) := (Keep.refl _ _).alloc _
      have hO1 := HO.out.keep hkx (by simp)
      have hK1 := HK.out.nil hkx
      have hBK1 := HBK.out.trans (BKt.of hkx)
      have hlw : ∀ x ∈ (Value.slice Au a1.length cu).ownBlock.toList, x ≠ wr.heap.size := fun x hx => by have := (HO.out.lt x hx).2; omega
      generalize wr.alloc (.cells #[.int .i64 p.k, .string p.tx, .string p.nm, .string p.ty, .string p.st, .int .i64 p.off, .slice Ac p.cs.length cc] 68) = W1 at *
      obtain ⟨bx, hbx⟩ : ∃ bx, wr.heap.size = bx := ⟨_, rfl⟩
      rw [hbx] at hX hlw ⊢
      have HX := Lib.hid hX
      have HO1 := Lib.hid hO1
      have HK1 := Lib.hid hK1
      have HBK1 := Lib.hid hBK1
      have HLW := Lib.hid hlw
      have x0 : W1.cell? ⟨bx, 0, none⟩ = some (.int .i64 p.k) := hX.cell_eq rfl
      have x1 : W1.cell? ⟨bx, 1, none⟩ = some (.string p.tx) := hX.cell_eq rfl
      have x2 : W1.cell? ⟨bx, 2, none⟩ = some (.string p.nm) := hX.cell_eq rfl
      have x3 : W1.cell? ⟨bx, 3, none⟩ = some (.string p.ty) := hX.cell_eq rfl
      have x4 : W1.cell? ⟨bx, 4, none⟩ = some (.string p.st) := hX.cell_eq rfl
      have x6 : W1.cell? ⟨bx, 6, none⟩ = some (.slice Ac p.cs.length cc) := hX.cell_eq rfl
      have HX3 := Lib.hid x3
      have HX4 := Lib.hid x4
      have HX6 := Lib.hid x6
      clear hX hO1 hK1 hBK1 hkx y0 y1 y2 y3 y4 y5 y6 hlw hbx hbr hbb
      rcases hpk with h1 | h2 | h3 | h4
      · have k1 : (p.k == 1) = true := by simp [h1]
        have HP : Hid (partT (textF n) p = [p.tx]) := by unfold Hid partT; rw [if_pos h1]
        clear h1
        go_wp2_with (go_at_call 64; refine (HPW.out W1 Au cu a1 p.tx HK1.out HO1.out (by omega)).mono ?_; rintro e w5 ⟨A5, c5, rfl, hO5, hk5, hb5⟩; have HO5 := Lib.hid hO5; have HK5 := Lib.hid hk5; have HBK5 := Lib.hid (HBK1.out.trans hb5); clear hO5 hk5 hb5)
        go_roundw
        case rel => exact ⟨k + 1, by omega, by go_num, by rw [HS1.out, HP.out]; exact HO5.out, HK5.out, HBK5.out⟩
        case measure => simp [intOf]; omega
      · have k1 : (p.k == 1) = false := by simp [h2]
        have k3 : (p.k == 3) = false := by simp [h2]
        have k4 : (p.k == 4) = false := by simp [h2]
        have k5 : (p.k == 5) = false := by simp [h2]
        have k6 : (p.k == 6) = false := by simp [h2]
        have HP : Hid (partT (textF n) p = []) := by unfold Hid partT; rw [if_neg (by omega), if_pos h2]
        clear h2
        go_wp2_with fail
        go_roundw
        case rel => exact ⟨k + 1, by omega, by go_num, by rw [HS1.out, HP.out]; exact HO1.out, HK1.out, HBK1.out⟩
        case measure => simp [intOf]; omega
      · have k1 : (p.k == 1) = false := by simp [h3]
        have k3 : (p.k == 3) = true := by simp [h3]
        have HP : Hid (partT (textF n) p = p.nm :: (optT p.ty ++ optT p.st)) := by unfold Hid partT; rw [if_neg (by omega), if_neg (by omega), if_pos h3]
        clear h3
        cases hy : noB p.ty <;> cases hs : noB p.st
        · have e1 : p.ty.toList.isEmpty = false := by rw [empT, hy]
          have e2 : p.st.toList.isEmpty = false := by rw [empT, hs]
          have z1 : p.ty.size ≠ 0 := fun h0 => by unfold noB at hy; rw [decide_eq_true h0] at hy; cases hy
          have HS3 : Hid (putsT a1 (partT (textF n) p) = putT (putT (putT a1 p.nm) p.ty) p.st) := by unfold Hid; rw [HP.out]; unfold optT; rw [hy, hs]; rfl
          have l1 := putT_len a1 p.nm
          have l2 := putT_len (putT a1 p.nm) p.ty
          clear hy hs
          go_wp2_with (first
            | (go_at_call 64; with_reducible refine (HPW.out W1 Au cu a1 p.nm HK1.out HO1.out (by omega)).mono ?_; rintro e w5 ⟨A5, c5, rfl, hO5, hk5, hb5⟩; have hX5 := hb5 _ _ _ HX.out (by decide); have HX5 := Lib.hid hX5; have z3 : w5.cell? ⟨bx, 3, none⟩ = some (.string p.ty) := hX5.cell_eq rfl; have z4 : w5.cell? ⟨bx, 4, none⟩ = some (.string p.st) := hX5.cell_eq rfl; have z6 : w5.cell? ⟨bx, 6, none⟩ = some (.slice Ac p.cs.length cc) := hX5.cell_eq rfl; have HO5 := Lib.hid hO5; have HK5 := Lib.hid hk5; have HBK5 := Lib.hid (HBK1.out.trans hb5); clear hO5 hk5 hb5 hX5 x0 x1 x2 x3 x4 x6)
            | (go_at_call 64; with_reducible refine (HPW.out w5 A5 c5 (putT a1 p.nm) p.ty HK5.out HO5.out (by omega)).mono ?_; rintro e w6 ⟨A6, c6, rfl, hO6, hk6, hb6⟩; have hX6 := hb6 _ _ _ HX5.out (by decide); have v4 : w6.cell? ⟨bx, 4, none⟩ = some (.string p.st) := hX6.cell_eq rfl; have HO6 := Lib.hid hO6; have HK6 := Lib.hid hk6; have HBK6 := Lib.hid (HBK5.out.trans hb6); clear hO6 hk6 hb6 hX6 z3 z4 z6)
            | (go_at_call 64; with_reducible refine (HPW.out w6 A6 c6 (putT (putT a1 p.nm) p.ty) p.st HK6.out HO6.out (by omega)).mono ?_; rintro e w7 ⟨A7, c7, rfl, hO7, hk7, hb7⟩; have HO7 := Lib.hid hO7; have HK7 := Lib.hid hk7; have HBK7 := Lib.hid (HBK6.out.trans hb7); clear hO7 hk7 hb7))
          go_roundw
          case rel => exact ⟨k + 1, by omega, by go_num, by rw [HS1.out, HS3.out]; exact HO7.out, HK7.out, HBK7.out⟩
          case measure => simp [intOf]; omega
        · have e1 : p.ty.toList.isEmpty = false := by rw [empT, hy]
          have e2 : p.st.toList.isEmpty = true := by rw [empT, hs]
          have z1 : p.ty.size ≠ 0 := fun h0 => by unfold noB at hy; rw [decide_eq_true h0] at hy; cases hy
          have HS3 : Hid (putsT a1 (partT (textF n) p) = putT (putT a1 p.nm) p.ty) := by unfold Hid; rw [HP.out]; unfold optT; rw [hy, hs]; rfl
          have l1 := putT_len a1 p.nm
          have l2 := putT_len (putT a1 p.nm) p.ty
          clear hy hs
          go_wp2_with (first
            | (go_at_call 64; with_reducible refine (HPW.out W1 Au cu a1 p.nm HK1.out HO1.out (by omega)).mono ?_; rintro e w5 ⟨A5, c5, rfl, hO5, hk5, hb5⟩; have hX5 := hb5 _ _ _ HX.out (by decide); have HX5 := Lib.hid hX5; have z3 : w5.cell? ⟨bx, 3, none⟩ = some (.string p.ty) := hX5.cell_eq rfl; have z4 : w5.cell? ⟨bx, 4, none⟩ = some (.string p.st) := hX5.cell_eq rfl; have z6 : w5.cell? ⟨bx, 6, none⟩ = some (.slice Ac p.cs.length cc) := hX5.cell_eq rfl; have HO5 := Lib.hid hO5; have HK5 := Lib.hid hk5; have HBK5 := Lib.hid (HBK1.out.trans hb5); clear hO5 hk5 hb5 hX5 x0 x1 x2 x3 x4 x6)
            | (go_at_call 64; with_reducible refine (HPW.out w5 A5 c5 (putT a1 p.nm) p.ty HK5.out HO5.out (by omega)).mono ?_; rintro e w6 ⟨A6, c6, rfl, hO6, hk6, hb6⟩; have hX6 := hb6 _ _ _ HX5.out (by decide); have v4 : w6.cell? ⟨bx, 4, none⟩ = some (.string p.st) := hX6.cell_eq rfl; have HO6 := Lib.hid hO6; have HK6 := Lib.hid hk6; have HBK6 := Lib.hid (HBK5.out.trans hb6); clear hO6 hk6 hb6 hX6 z3 z4 z6))
          go_roundw
          case rel => exact ⟨k + 1, by omega, by go_num, by rw [HS1.out, HS3.out]; exact HO6.out, HK6.out, HBK6.out⟩
          case measure => simp [intOf]; omega
        · have e1 : p.ty.toList.isEmpty = true := by rw [empT, hy]
          have e2 : p.st.toList.isEmpty = false := by rw [empT, hs]
          have HS3 : Hid (putsT a1 (partT (textF n) p) = putT (putT a1 p.nm) p.st) := by unfold Hid; rw [HP.out]; unfold optT; rw [hy, hs]; rfl
          have l1 := putT_len a1 p.nm
          have l2 := putT_len (putT a1 p.nm) p.ty
          clear hy hs
          go_wp2_with (first
            | (go_at_call 64; with_reducible refine (HPW.out W1 Au cu a1 p.nm HK1.out HO1.out (by omega)).mono ?_; rintro e w5 ⟨A5, c5, rfl, hO5, hk5, hb5⟩; have hX5 := hb5 _ _ _ HX.out (by decide); have HX5 := Lib.hid hX5; have z3 : w5.cell? ⟨bx, 3, none⟩ = some (.string p.ty) := hX5.cell_eq rfl; have z4 : w5.cell? ⟨bx, 4, none⟩ = some (.string p.st) := hX5.cell_eq rfl; have z6 : w5.cell? ⟨bx, 6, none⟩ = some (.slice Ac p.cs.length cc) := hX5.cell_eq rfl; have HO5 := Lib.hid hO5; have HK5 := Lib.hid hk5; have HBK5 := Lib.hid (HBK1.out.trans hb5); clear hO5 hk5 hb5 hX5 x0 x1 x2 x3 x4 x6)
            | (go_at_call 64; with_reducible refine (HPW.out w5 A5 c5 (putT a1 p.nm) p.st HK5.out HO5.out (by omega)).mono ?_; rintro e w6 ⟨A6, c6, rfl, hO6, hk6, hb6⟩; have HO6 := Lib.hid hO6; have HK6 := Lib.hid hk6; have HBK6 := Lib.hid (HBK5.out.trans hb6); clear hO6 hk6 hb6))
          go_roundw
          case rel => exact ⟨k + 1, by omega, by go_num, by rw [HS1.out, HS3.out]; exact HO6.out, HK6.out, HBK6.out⟩
          case measure => simp [intOf]; omega
        · have e1 : p.ty.toList.isEmpty = true := by rw [empT, hy]
          have e2 : p.st.toList.isEmpty = true := by rw [empT, hs]
          have HS3 : Hid (putsT a1 (partT (textF n) p) = putT a1 p.nm) := by unfold Hid; rw [HP.out]; unfold optT; rw [hy, hs]; rfl
          have l1 := putT_len a1 p.nm
          have l2 := putT_len (putT a1 p.nm) p.ty
          clear hy hs
          go_wp2_with (first
            | (go_at_call 64; with_reducible refine (HPW.out W1 Au cu a1 p.nm HK1.out HO1.out (by omega)).mono ?_; rintro e w5 ⟨A5, c5, rfl, hO5, hk5, hb5⟩; have hX5 := hb5 _ _ _ HX.out (by decide); have HX5 := Lib.hid hX5; have z3 : w5.cell? ⟨bx, 3, none⟩ = some (.string p.ty) := hX5.cell_eq rfl; have z4 : w5.cell? ⟨bx, 4, none⟩ = some (.string p.st) := hX5.cell_eq rfl; have z6 : w5.cell? ⟨bx, 6, none⟩ = some (.slice Ac p.cs.length cc) := hX5.cell_eq rfl; have HO5 := Lib.hid hO5; have HK5 := Lib.hid hk5; have HBK5 := Lib.hid (HBK1.out.trans hb5); clear hO5 hk5 hb5 hX5 x0 x1 x2 x3 x4 x6))
          go_roundw
          case rel => exact ⟨k + 1, by omega, by go_num, by rw [HS1.out, HS3.out]; exact HO5.out, HK5.out, HBK5.out⟩
          case measure => simp [intOf]; omega
      · have k1 : (p.k == 1) = false := by simp; omega
        have k3 : (p.k == 3) = false := by simp; omega
        have HP : Hid (partT (textF n) p = p.nm :: caseT (textF n) p.cs) := by unfold Hid partT; rw [if_neg (by omega), if_neg (by omega), if_neg (by omega)]
        have HS3 : Hid (putsT a1 (partT (textF n) p) = putsT (putT a1 p.nm) (caseT (textF n) p.cs)) := by unfold Hid; rw [HP.out]; rfl
        have l1 := putT_len a1 p.nm
        have hcl : p.cs.length ≤ 1000000000 := by have := bulkC_len (bulkF n) p.cs; omega
        have h456 : ((p.k == 4) = true) ∨ ((p.k == 4) = false ∧ (p.k == 5) = true) ∨ ((p.k == 4) = false ∧ (p.k == 5) = false ∧ (p.k == 6) = true) := by
          rcases h4 with h4 | h4 | h4 <;> simp [h4]
        clear h4
        obtain ⟨a2, ha2⟩ : ∃ a2, putT a1 p.nm = a2 := ⟨_, rfl⟩
        have HA2 := Lib.hid ha2
        have HM : Hid (Calls Tryz.prog 64 #[.slice Au a1.length cu, .string p.nm] W1 fun e w' => ∃ A2 c2, e = .returned (.slice A2 a2.length c2) ∧ OwnS w' w0.heap.size (.slice A2 a2.length c2) a2 ∧ Keep [] w0 w' ∧ BKt W1 w') := by
          have h := HPW.out W1 Au cu a1 p.nm HK1.out HO1.out (by omega)
          rw [ha2] at h
          exact h
        rw [ha2] at HS3 l1
        clear ha2
        rcases h456 with k4 | ⟨k4, k5⟩ | ⟨k4, k5, k6⟩
        all_goals
          go_upto_region 17 with (go_at_call 64; with_reducible refine HM.out.mono ?_; rintro e w5 ⟨A5, c5, rfl, hO5, hk5, hb5⟩; have hX5 := hb5 _ _ _ HX.out (by decide); have HX5 := Lib.hid hX5; have z6 : w5.cell? ⟨bx, 6, none⟩ = some (.slice Ac p.cs.length cc) := hX5.cell_eq rfl; have HO5 := Lib.hid hO5; have HK5 := Lib.hid hk5; have HBK5 := Lib.hid (HBK1.out.trans hb5); clear hO5 hk5 hb5 hX5 x0 x1 x2 x3 x4 x6)
          go_wp2
          go_loopw [0, 54] (fun uv j wx => ∃ m : Nat, m ≤ p.cs.length ∧ j = .int .i64 m ∧ OwnS wx w0.heap.size uv (putsT a2 (caseT (textF n) (p.cs.take m))) ∧ Keep [] w0 wx ∧ BKt w wx) (fun _ j _ => p.cs.length - (intOf j).toNat)
          case atStart => exact ⟨0, Nat.zero_le _, rfl, HO5.out, HK5.out, HBK5.out⟩
          case round =>
            obtain ⟨m, hm, rfl, hO, hK, hBK⟩ := hrel
            obtain ⟨A6, c6, rfl⟩ := hO.form
            have HO6 := Lib.hid hO
            have HK6 := Lib.hid hK
            have HBK6 := Lib.hid hBK
            clear hO hK hBK
            by_cases hlt2 : m < p.cs.length
            · obtain ⟨c, hc⟩ : ∃ c, p.cs[m]? = some c := ⟨_, List.getElem?_eq_getElem hlt2⟩
              obtain ⟨b2, o2, pv, rfl, hb2, e1, e2, hL⟩ := HCAT.out m c hc
              have q1 := (HK6.out.cell (p := ⟨b2, o2 + m * 2, none⟩) hb2 (by simp)).trans e1
              have q2 := (HK6.out.cell (p := ⟨b2, o2 + m * 2 + 1, none⟩) hb2 (by simp)).trans e2
              obtain ⟨Ap, mp, kp, rfl⟩ := hL.form
              have HLX := Lib.hid hL
              have HRX := Lib.hid (caseR_mem HPR.out (List.mem_of_getElem? hc))
              have HCT : Hid (putsT a2 (caseT (textF n) (p.cs.take (m + 1))) = putsT (putT (putsT a2 (caseT (textF n) (p.cs.take m))) c.1) (textF n c.2)) := by unfold Hid; rw [caseT_take hc, putsT_append]; rfl
              have hln3 : (putsT a2 (caseT (textF n) (p.cs.take m))).length + 1 + bulkF n c.2 ≤ 1000000000 := by
                have g1 := putsT_len (caseT (textF n) (p.cs.take m)) a2
                have g2 := caseT_bulk (K := bulkF n) (U := textF n) (textF_bulk n) (p.cs.take m)
                have g3 := bulkC_takeS (K := bulkF n) hc
                have g4 := bulkC_take_le (bulkF n) p.cs (m + 1)
                omega
              obtain ⟨a3, ha3⟩ : ∃ a3, putsT a2 (caseT (textF n) (p.cs.take m)) = a3 := ⟨_, rfl⟩
              rw [ha3] at HO6 HCT hln3
              rw [ha3]
              have l3 := putT_len a3 c.1
              have hbr := Nat.lt_of_lt_of_le hb2 HK6.out.size
              clear ha3 e1 e2 hL hc
              go_upto_region 20 with fail
              have hX : Blk (wr.alloc (.cells #[.string c.1, .slice Ap mp kp] 70)) wr.heap.size 70 #[.string c.1, .slice Ap mp kp] := Blk.new _ _ _
              have hkx : Keep [] wr (wr.alloc (.cells #[.string c.1, .slice Ap mp kp] 70)) := (Keep.refl _ _).alloc _
              generalize wr.alloc (.cells #[.string c.1, .slice Ap mp kp] 70) = W2 at *
              obtain ⟨cb, hcb⟩ : ∃ cb, wr.heap.size = cb := ⟨_, rfl⟩
              rw [hcb] at hX ⊢
              have hkd := hkx.drew
              have hXd := hX.keep (Keep.drew (Keep.refl [] W2)) (by simp)
              have HXd := Lib.hid hXd
              have HO7 := Lib.hid (HO6.out.keep hkd (by simp))
              have HK7 := Lib.hid (HK6.out.nil hkd)
              have HBK7 := Lib.hid (HBK6.out.trans (BKt.of hkd))
              have u0 : W2.cell? ⟨cb, 0, none⟩ = some (.string c.1) := hX.cell_eq rfl
              have u1 : W2.cell? ⟨cb, 1, none⟩ = some (.slice Ap mp kp) := hX.cell_eq rfl
              clear hX hXd hkx hkd q1 q2 hcb hbr hb2
              go_region_held3 (fun W => W.cell? ⟨cb, 0, none⟩ = some (.string c.1) ∧ W.cell? ⟨cb, 1, none⟩ = some (.slice Ap mp kp)) (first | exact ⟨u0, u1⟩ | exact ⟨v0, v1⟩ | exact ⟨r0, r1⟩)
                (first
                  | (go_at_call 64; with_reducible refine (HPW.out W2.drew A6 c6 a3 c.1 HK7.out HO7.out (by omega)).mono ?_; rintro e w8 ⟨A8, c8, rfl, hO8, hk8, hb8⟩; have hX8 := hb8 _ _ _ HXd.out (by decide); have HX8 := Lib.hid hX8; have v0 : w8.cell? ⟨cb, 0, none⟩ = some (.string c.1) := hX8.cell_eq rfl; have v1 : w8.cell? ⟨cb, 1, none⟩ = some (.slice Ap mp kp) := hX8.cell_eq rfl; have HO8 := Lib.hid hO8; have HK8 := Lib.hid hk8; have HBK8 := Lib.hid (HBK7.out.trans hb8); clear hO8 hk8 hb8 hX8)
                  | (go_at_call 42; refine (HIH.out c.2 _ S _ A8 c8 (putT a3 c.1) w0 w8 HRX.out HLX.out HK8.out HO8.out (by omega)).mono ?_; rintro e w9 ⟨A9, c9, rfl, hO9, hk9, hb9⟩; have hX9 := hb9 _ _ _ HX8.out (by decide); have r0 : w9.cell? ⟨cb, 0, none⟩ = some (.string c.1) := hX9.cell_eq rfl; have r1 : w9.cell? ⟨cb, 1, none⟩ = some (.slice Ap mp kp) := hX9.cell_eq rfl; have HO9 := Lib.hid hO9; have HK9 := Lib.hid hk9; have HBK9 := Lib.hid (HBK8.out.trans hb9); clear hO9 hk9 hb9 hX9))
              all_goals
                go_wp2
                go_roundw
                case rel => exact ⟨m + 1, by omega, by go_num, by rw [HCT.out]; exact HO9.out, HK9.out, HBK9.out⟩
                case measure => simp [intOf]; omega
            · obtain rfl : m = p.cs.length := by omega
              rw [List.take_length] at HO6 ⊢
              go_wp2
              go_roundw
              case rel => exact ⟨k + 1, by omega, by go_num, by rw [HS1.out, HS3.out]; exact HO6.out, HK6.out, HBK6.out⟩
              case measure => simp [intOf]; omega
    · obtain rfl : k = l.length := by omega
      rw [List.take_length] at HO ⊢
      go_wp2
      go_ret
      exact ⟨Au, cu, rfl, HO.out, HK.out, HBK.out⟩
theorem texts20_any : ∀ n, TxR n
  | 0 => fun _ _ _ _ _ _ _ _ _ h => by cases h
  | n + 1 => texts20_step n (texts20_any n)
end Go.Proofs.YtmfoiceofhcicaaGreatDoor

namespace Go.Proofs.YtmfoiceofhcicaaGreatDoor
open Go.RowKit Go.Sort Go.Shelf

section
variable {α : Type} [Inhabited α] {w : World} {g n : Nat} {os : Array Obj} {cur : Array Value} {e : TypeId} {fr : Nat × Nat}
theorem heap_sortedE (enc : α → Value) (F : Array α) (hb : w.heap[g]? = some (.cells cur e fr)) : (grow (putRow enc (Sort.ahead w n) g 0 F) os).heap[g]? = some (.cells (putCells enc 0 F cur) e fr) := by
  have hg : g < w.heap.size := (Array.getElem?_eq_some_iff.1 hb).1
  rw [heap_grow_old _ _ (by simpa using hg)]
  simp [putRow, mapBlock, Sort.ahead, Array.getElem?_modify, hb, onCells]
theorem keep_sortedE (enc : α → Value) (F : Array α) : Keep [g] w (grow (putRow enc (Sort.ahead w n) g 0 F) os) := by
  refine ⟨rfl, rfl, rfl, by simp, fun k hk hne => ?_⟩
  rw [heap_grow_old _ _ (by simpa using hk)]
  have : g ≠ k := fun e => hne (by simp [e])
  simp [putRow, mapBlock, Sort.ahead, Array.getElem?_modify, this]
theorem take_putCellsE (enc : α → Value) (F : Array α) (h : F.size ≤ cur.size) : (putCells enc 0 F cur).toList.take F.size = F.toList.map enc := by
  apply List.ext_getElem?
  intro j
  by_cases hj : j < F.size
  · rw [List.getElem?_take_of_lt hj, Array.getElem?_toList]
    simp [putCells, hj, show j < cur.size by omega]
  · rw [List.getElem?_take_eq_none (by omega), List.getElem?_eq_none (by simp; omega)]
end
/-- Texts, sorted. -/
def sortT (l : List ByteArray) : List ByteArray := ((l.map fun s => s.data.toList).mergeSort fun x y => decide (x ≤ y)).map fun x => ⟨x.toArray⟩
theorem sortT_len (l : List ByteArray) : (sortT l).length = l.length := by simp [sortT]
theorem sortT_puts (ts : List ByteArray) : sortT (putsT [] ts) = poolF ts := by
  unfold sortT
  rw [puts_pool, List.map_map]
  conv => rhs; rw [← List.map_id (poolF ts)]
  apply List.map_congr_left
  intro s _
  simp
theorem holdsT {w : World} {B g cap m : Nat} {l : List ByteArray} (h : OwnS w B (.slice (some ⟨g, 0, none⟩) m cap) l) : Holds encStr w g 0 (l.map fun s => s.data.toList).toArray := by
  obtain ⟨A, c, he⟩ := h.form
  injection he with _ he _
  subst he
  intro j hj
  have hj' : j < l.length := by simpa using hj
  refine ⟨?_, by rw [Nat.zero_add]; exact World.ownsRow.frozenAt h j⟩
  rw [Nat.zero_add, World.ownsRow.cellAt h j (by omega), List.getElem?_map, List.getElem?_eq_getElem hj', getElem!_pos _ j hj]
  simp
theorem ownS_sorted {w : World} {B g cap m n : Nat} {os : Array Obj} {l : List ByteArray} (h : OwnS w B (.slice (some ⟨g, 0, none⟩) m cap) l) :
    OwnS (grow (putRow encStr (Sort.ahead w n) g 0 ((l.map fun s => s.data.toList).mergeSort fun x y => decide (x ≤ y)).toArray) os) B (.slice (some ⟨g, 0, none⟩) m cap) (sortT l) := by
  obtain ⟨A, c, he⟩ := h.form
  injection he with _ he _
  subst he
  rcases h.2 with ⟨h0, _⟩ | ⟨g', cap', cur, hv, hB, hg, h1, h2, h3, h4⟩
  · cases h0
  · injection hv with e1 e2 e3
    injection e1 with e1
    injection e1 with e1
    subst e1; subst e3
    have hl := sortT_len l
    refine ⟨by simp, .inr ⟨g, cap, _, by rw [hl], hB, heap_sortedE _ _ hg, by rw [hl]; exact h1, h2, by simp [putCells, h3], ?_⟩⟩
    have := take_putCellsE (cur := cur) encStr ((l.map fun s => s.data.toList).mergeSort fun x y => decide (x ≤ y)).toArray (by simp; omega)
    simp only [List.size_toArray, List.length_mergeSort, List.length_map] at this
    rw [hl, Nat.mul_one, this]
    simp [sortT]
set_option maxRecDepth 100000 in
set_option maxHeartbeats 4000000 in
/-- sort.Strings. -/
theorem sortStrings_any (w : World) (B : Nat) (v : Value) (l : List ByteArray) (h : OwnS w B v l) (hl : l.length ≤ 1000000000) :
    Calls Tryz.prog 43 #[v] w fun e w' => e = .returned (.tuple #[]) ∧ OwnS w' B v (sortT l) ∧ Keep v.ownBlock.toList w w' := by
  have HS : Hid (Calls Tryz.prog 65 #[v] w fun e w' => e = .returned (.tuple #[]) ∧ OwnS w' B v (sortT l) ∧ Keep v.ownBlock.toList w w') := by
    rcases h.2 with ⟨rfl, h0⟩ | ⟨g, cap, cur, rfl, hB, hg, h1, h2, h3, h4⟩
    · have e : l = [] := by cases l with
        | nil => rfl
        | cons _ _ => simp at h0
      subst e
      refine (AnyM.slices_Sort_string_none Tryz.sort65 none 0 w).mono ?_
      rintro e w' ⟨rfl, rfl⟩
      exact ⟨rfl, by rw [show sortT [] = [] by simp [sortT]]; exact OwnS.nil _ _, Keep.refl _ _⟩
    · have hh := AnyM.slices_Sort_string Tryz.sort65 g 0 cap (l.map fun s => s.data.toList) w (holdsT h) (Array.getElem?_eq_some_iff.1 hg).1 (by simp; omega)
      rw [List.length_map] at hh
      refine hh.mono ?_
      rintro e w' ⟨rfl, n, os, rfl⟩
      refine ⟨rfl, ownS_sorted h, ?_⟩
      have := keep_sortedE (w := w) (g := g) (n := n) (os := os) encStr ((l.map fun s => s.data.toList).mergeSort fun x y => decide (x ≤ y)).toArray
      simpa [Value.ownBlock] using this
  clear h
  go_enter Tryz.func43, Tryz.ntmps43
  go_wp2_with (go_at_call 65; refine HS.out.mono ?_; rintro e w5 ⟨rfl, hO5, hk5⟩)
  go_end0
  exact ⟨rfl, hO5, hk5⟩
set_option maxRecDepth 100000 in
set_option maxHeartbeats 4000000 in
/-- vernacularref20.Texts. -/
theorem texts20All (n : Nat) (l : List PT) (h : Bool) (S : Nat → Prop) (v : Value) (w : World) (hr : rightF n l h = true) (hL : Lies n S w v l) (hb : bulkF n l ≤ 1000000000) :
    Calls Tryz.prog 26 #[v] w fun e w' => ∃ A c, e = .returned (.slice A (poolF (textF n l)).length c) ∧ OwnS w' w.heap.size (.slice A (poolF (textF n l)).length c) (poolF (textF n l)) ∧ Keep [] w w' := by
  have HT := Lib.hid (texts20_any n l h S v none 0 [] w w hr hL (Keep.refl _ _) (OwnS.nil _ _) (by simpa using hb))
  have hlen : (putsT [] (textF n l)).length ≤ 1000000000 := by
    have h1 := putsT_len (textF n l) []
    have h2 := textF_bulk n l
    simp only [List.length_nil] at h1
    omega
  have HE := Lib.hid (sortT_puts (textF n l))
  have HEL : Hid ((putsT [] (textF n l)).length = (poolF (textF n l)).length) := by
    unfold Hid
    rw [← sortT_puts, sortT_len]
  clear hL hb hr
  generalize putsT [] (textF n l) = ts at *
  generalize poolF (textF n l) = P at *
  go_enter Tryz.func26, Tryz.ntmps26
  go_wp2_with (first
    | (go_at_call 42; refine HT.out.mono ?_; rintro e w5 ⟨A5, c5, rfl, hO5, hk5, -⟩; have HS := Lib.hid (sortStrings_any w5 _ _ ts hO5 hlen); have hlt := hO5.lt; have HLT := Lib.hid hlt; have HK5 := Lib.hid hk5; clear hO5 hk5 hlt)
    | (go_at_call 43; refine HS.out.mono ?_; rintro e w6 ⟨rfl, hO6, hk6⟩; rw [HE.out] at hO6; have HO6 := Lib.hid hO6; have HK6 := Lib.hid (HK5.out.trans hk6 (fun x hx => .inr (HLT.out x hx).1)); clear hO6 hk6))
  go_ret
  rw [← HEL.out]
  exact ⟨A5, c5, rfl, HO6.out, HK6.out⟩
end Go.Proofs.YtmfoiceofhcicaaGreatDoor

namespace Go.Proofs.YtmfoiceofhcicaaGreatDoor
open Go.RowKit Go.IntWalk

/-- A number's bytes, the least first. -/
def leB : Nat → Nat → List UInt8
  | 0, _ => []
  | n + 1, x => UInt8.ofNat x :: leB n (x / 256)
theorem leB_len : ∀ n x : Nat, (leB n x).length = n
  | 0, _ => rfl
  | n + 1, x => by simp [leB, leB_len n]
theorem leB_snoc : ∀ k x : Nat, leB (k + 1) x = leB k x ++ [UInt8.ofNat (x / 256 ^ k)]
  | 0, x => by simp [leB]
  | k + 1, x => by
    show UInt8.ofNat x :: leB (k + 1) (x / 256) = (UInt8.ofNat x :: leB k (x / 256)) ++ [UInt8.ofNat (x / 256 ^ (k + 1))]
    rw [leB_snoc k, Nat.div_div_eq_div_mul, show 256 * 256 ^ k = 256 ^ (k + 1) by rw [Nat.pow_succ, Nat.mul_comm]]
    rfl
theorem leB_four (x : Nat) : leB 4 x = w32 x := by
  simp only [leB, w32, Nat.div_div_eq_div_mul]
theorem run_make_u8 (n : Nat) (hn : n ≤ 1000000000) (w : World) : (Instr.makeSlice 25 (.int .i64 n) (.int .i64 n)).run Tryz.prog w =
    .ok (.slice (some ⟨w.heap.size, 0, none⟩) n n) (w.alloc (.cells (Array.replicate n (Value.int .u8 0)) 5)) := by
  rw [← List.toArray_replicate]
  obtain ⟨i0, hi, hz0, hz1, hz2⟩ := info_parts infoU
  have h := run_make (P := Tryz.prog) w 25 5 i0 _ Tryz.underlying25 hi hz0 .i64 .i64 n n (by omega) (Int.le_refl _) (by rw [hz2]; omega) (by omega)
  rw [hz1, Int.toNat_natCast, Nat.mul_one] at h
  rw [h]
  have e : madeCells (Value.int .u8 0).cells n = (List.replicate n (Value.int .u8 0)).toArray := by
    apply Array.toList_inj.1
    show (madeCells #[.int .u8 0] n).toList = _
    rw [toList_madeCells_one]
  rw [e]
theorem made_u8 (w : World) (n : Nat) (hn : n ≤ 1000000000) : OwnU (w.alloc (.cells (Array.replicate n (Value.int .u8 0)) 5)) w.heap.size (.slice (some ⟨w.heap.size, 0, none⟩) n n) (List.replicate n 0) := by
  rw [← List.toArray_replicate]
  refine ⟨by simp, .inr ⟨w.heap.size, n, _, by simp, Nat.le_refl _, heap_alloc_new w _, by simp, by unfold maxLen; omega, by simp, ?_⟩⟩
  simp [cellU]
theorem leB_set (n k x : Nat) (hk : k < n) : (leB k x ++ List.replicate (n - k) 0).set k (UInt8.ofNat (x / 256 ^ k)) = leB (k + 1) x ++ List.replicate (n - (k + 1)) 0 := by
  rw [List.set_append_right k _ (by rw [leB_len]; exact Nat.le_refl _), leB_len, Nat.sub_self, leB_snoc, List.append_assoc]
  congr 1
  rw [show n - k = (n - (k + 1)) + 1 by omega, List.replicate_succ]
  rfl
set_option maxRecDepth 100000 in
set_option maxHeartbeats 4000000 in
/-- vernacularref01.Low. -/
theorem low_any (w : World) (x n : Nat) (hx : x < 4294967296) (hn : n ≤ 1000) :
    Calls Tryz.prog 62 #[.int .u32 x, .int .i64 n] w fun e w' => ∃ b c, e = .returned (.slice (some ⟨b, 0, none⟩) n c) ∧ OwnU w' w.heap.size (.slice (some ⟨b, 0, none⟩) n c) (leB n x) ∧ Keep [] w w' := by
  have HM := fun W : World => run_make_u8 n (by omega) W
  have HO0 := Lib.hid (made_u8 w n (by omega))
  have HX := Lib.hid hx
  go_enter Tryz.func62, Tryz.ntmps62
  go_wp2
  have hk0 : Keep [] w (w.alloc (.cells (Array.replicate n (Value.int .u8 0)) 5)) := (Keep.refl _ _).alloc _
  generalize w.alloc (.cells (Array.replicate n (Value.int .u8 0)) 5) = W0 at *
  obtain ⟨b, hb⟩ : ∃ b, w.heap.size = b := ⟨_, rfl⟩
  rw [hb] at HO0 ⊢
  have HB := Lib.hid hb
  have HK0 := Lib.hid hk0
  clear hk0 hb HM
  go_loopw [0, 6] (fun xv iv wr => ∃ k : Nat, k ≤ n ∧ iv = .int .i64 k ∧ xv = .int .u32 ((x / 256 ^ k : Nat) : Int) ∧ OwnU wr b (.slice (some ⟨b, 0, none⟩) n n) (leB k x ++ List.replicate (n - k) 0) ∧ Keep [] w wr) (fun _ iv _ => n - (intOf iv).toNat)
  case atStart => exact ⟨0, Nat.zero_le _, rfl, by simp, by simpa [leB] using HO0.out, HK0.out⟩
  case round =>
    obtain ⟨k, hk, rfl, rfl, hO, hK⟩ := hrel
    have hll : (leB k x ++ List.replicate (n - k) 0).length = n := by rw [List.length_append, leB_len, List.length_replicate]; omega
    have HO := Lib.hid hO
    have HK := Lib.hid hK
    clear hO hK
    by_cases hlt : k < n
    · obtain ⟨e0, z0, -⟩ := HO.out.at k (by rw [hll]; exact hlt)
      generalize cellU ((leB k x ++ List.replicate (n - k) 0).getD k 0) = cv at e0
      have HS := Lib.hid (leB_set n k x hlt)
      have hq : x / 256 ^ k < 4294967296 := Nat.lt_of_le_of_lt (Nat.div_le_self _ _) hx
      have HD : Hid (x / 256 ^ (k + 1) = x / 256 ^ k / 256) := by unfold Hid; rw [Nat.div_div_eq_div_mul, Nat.pow_succ]
      obtain ⟨q, hq0⟩ : ∃ q, x / 256 ^ k = q := ⟨_, rfl⟩
      rw [hq0] at hq HD HS ⊢
      obtain ⟨L, hL⟩ : ∃ L, leB k x ++ List.replicate (n - k) 0 = L := ⟨_, rfl⟩
      rw [hL] at HO HS hll
      have hv : cellU (UInt8.ofNat q) = .int .u8 ((q : Int) % 256) := by unfold cellU; rw [UInt8.toNat_ofNat']; congr 1
      have hOs : OwnU (wr.setCell ⟨b, k, none⟩ (cellU (UInt8.ofNat q))) b (.slice (some ⟨b, 0, none⟩) n n) (L.set k (UInt8.ofNat q)) := HO.out.set k _
      have hKs : Keep [] w (wr.setCell ⟨b, k, none⟩ (cellU (UInt8.ofNat q))) := HK.out.setCell (.inr (Nat.le_of_eq HB.out)) _
      rw [hv] at hOs hKs
      have HOS := Lib.hid hOs
      have HKS := Lib.hid hKs
      have hm : ((q : Int)).tmod 256 = (q : Int) % 256 := Int.tmod_eq_emod_of_nonneg (by omega)
      have hd : ((q : Int)).tdiv 256 = (q : Int) / 256 := Int.tdiv_eq_ediv_of_nonneg (by omega)
      clear hOs hKs hv hL hq0
      go_wp2
      go_roundw
      case rel => exact ⟨k + 1, hlt, by go_num, by rw [HD.out]; go_num, by rw [← HS.out]; exact HOS.out, HKS.out⟩
      case measure => simp [intOf]; omega
    · obtain rfl : k = n := by omega
      go_wp2
      go_ret
      have hO := HO.out
      rw [Nat.sub_self, List.replicate_zero, List.append_nil] at hO
      exact ⟨b, _, rfl, by rw [HB.out]; exact hO, HK.out⟩
/-- Blocks other than the maker's, of another type than bytes', stay. -/
abbrev BM (g : Nat) (w w' : World) : Prop := ∀ (x : Nat) (o : Obj), w.heap[x]? = some o → x ≠ g → (∀ cs fr, o ≠ .cells cs 5 fr) → w'.heap[x]? = some o
theorem BM.refl (g : Nat) (w : World) : BM g w w := fun _ _ h _ _ => h
theorem BM.trans {g : Nat} {a b c : World} (h : BM g a b) (h2 : BM g b c) : BM g a c := fun x o ho hx hn => h2 x o (h x o ho hx hn) hx hn
theorem BM.of {g : Nat} {a b : World} (h : Keep [] a b) : BM g a b := fun x o ho _ _ => by
  have := h.block x (Array.getElem?_eq_some_iff.1 ho).1 (by simp)
  rw [this]; exact ho
theorem BM.own {g B : Nat} {a b : World} {v : Value} {l : List UInt8} (ho : OwnU a B v l) (h : Keep (g :: v.ownBlock.toList) a b) : BM g a b := fun x o hx hne hn => by
  have := h.block x (Array.getElem?_eq_some_iff.1 hx).1 (by
    intro hc
    rcases List.mem_cons.1 hc with hc | hc
    · exact hne hc
    · rcases ho.2 with ⟨rfl, _⟩ | ⟨g', cap, cur, rfl, _, hg, _⟩
      · simp [Value.ownBlock] at hc
      · obtain rfl : x = g' := by simpa [Value.ownBlock] using hc
        rw [hg] at hx
        injection hx with hx
        exact hn _ _ hx.symm)
  rw [this]; exact hx
theorem BM.blk {g x : Nat} {a b : World} {t : TypeId} {cs : Array Value} (h : BM g a b) (hx : Blk a x t cs) (hne : x ≠ g) (ht : t ≠ 5) : Blk b x t cs :=
  h x _ hx hne fun cs' fr e => by
    injection e with _ e _
    exact ht e
/-- The maker: its texts, the innermost plural's name and offset, its bytes; seen from a world ahead. -/
def MkW (w0 w : World) (g : Nat) (T : List ByteArray) (q : InP) (l : List UInt8) : Prop :=
  ∃ tv v, Blk w g 82 #[tv, v, .string q.1, .int .i64 q.2] ∧ OwnU w (g + 1) v l ∧ RdC (fun x => x < g) w tv T.length (T.map Value.string) ∧ w0.heap.size ≤ g ∧ Keep [] w0 w
theorem mk_app {w0 w w5 w6 : World} {g : Nat} {T : List ByteArray} {q : InP} {l ys : List UInt8} {tv v v6 : Value} (hO5 : OwnU w5 (g + 1) v l) (hT : RdC (fun x => x < g) w tv T.length (T.map Value.string)) (hg : w0.heap.size ≤ g) (hK : Keep [] w0 w) (h5 : Keep [] w w5) (h6 : Keep v.ownBlock.toList w5 w6)
    (hB6 : Blk w6 g 82 #[tv, v, .string q.1, .int .i64 q.2]) (hO6 : OwnU w6 (g + 1) v6 (l ++ ys)) : MkW w0 (w6.setCell ⟨g, 1, none⟩ v6) g T q (l ++ ys) ∧ BM g w (w6.setCell ⟨g, 1, none⟩ v6) := by
  have hks : Keep [g] w6 (w6.setCell ⟨g, 1, none⟩ v6) := (Keep.refl _ _).setCell (.inl (by simp)) _
  have hvg : ∀ x ∈ v.ownBlock.toList, g + 1 ≤ x := fun x hx => (hO5.lt x hx).1
  have h56 : Keep [] w0 w6 := (hK.nil h5).trans h6 (fun x hx => .inr (by have := hvg x hx; omega))
  have hT6 : RdC (fun x => x < g) w6 tv T.length (T.map Value.string) := (hT.keep h5 (by simp)).keep h6 (fun x hx hc => by have := hvg x hx; omega)
  refine ⟨⟨tv, v6, ?_, hO6.keep hks (fun x hx hc => by have := (hO6.lt x hx).1; simp at hc; omega), hT6.keep hks (fun x hx hc => by simp at hx; omega), hg, h56.trans hks (fun x hx => .inr (by simp at hx; omega))⟩, ?_⟩
  · have := Blk.set_ hB6 1 v6
    simpa using this
  · refine ((BM.of h5).trans (BM.own hO5 (h6.mono fun x hx => .inl (List.mem_cons_of_mem _ hx)))).trans fun x o hx hne _ => ?_
    rw [hks.block x (Array.getElem?_eq_some_iff.1 hx).1 (by simpa using hne)]
    exact hx
set_option maxRecDepth 100000 in
set_option maxHeartbeats 4000000 in
theorem two20_any (w0 w : World) (g : Nat) (T : List ByteArray) (q : InP) (l : List UInt8) (n : Nat) (h : MkW w0 w g T q l) (hn : n < 4294967296) (hl : l.length ≤ 10000000) :
    Calls Tryz.prog 35 #[.pointer (some ⟨g, 0, none⟩), .int .i64 n] w fun e w' => e = .returned (.tuple #[]) ∧ MkW w0 w' g T q (l ++ w16 n) ∧ BM g w w' := by
  obtain ⟨tv, v, hB, hO, hT, hg, hK⟩ := h
  obtain ⟨A, cap, rfl⟩ := hO.form
  have HL : Hid (∀ W, Calls Tryz.prog 62 #[.int .u32 (n : Int), .int .i64 2] W fun e w' => ∃ b c, e = .returned (.slice (some ⟨b, 0, none⟩) 2 c) ∧ OwnU w' W.heap.size (.slice (some ⟨b, 0, none⟩) 2 c) (w16 n) ∧ Keep [] W w') := fun W => low_any W n 2 (by omega) (by omega)
  have c1 : w.cell? ⟨g, 1, none⟩ = some (.slice A l.length cap) := hB.cell_eq rfl
  have f1 : w.frozen? ⟨g, 1, none⟩ = false := hB.frozen 1
  have hgl := hB.lt
  have hw : IntKind.u32.wrap (n : Int) = (n : Int) := by rw [IntKind.wrap_u32]; omega
  have HB := Lib.hid hB
  have HO := Lib.hid hO
  have HT := Lib.hid hT
  have HK := Lib.hid hK
  clear hB hO hT hK
  go_enter Tryz.func35, Tryz.ntmps35
  go_upto_region 0 with fail
  (refine wp_region_noPanic ?_; refine wp_region_held_drew (S := (fun _ => True)) (by kernel_rfl) ?_ (fun hHeld => ?_); (· (exact trivial)); refine wpAnyH_take (i := 0) (v := ?_) rfl (by kernel_rfl) (by kernel_rfl) (by kernel_rfl) (fun _ _ _ h => h) (Or.inl ⟨by rfl, ?_⟩) (by assumption) ?_; rotate_left; (· (intro w hSw; go_simp; try with_reducible rfl)); refine wpAnyH_take (i := 1) (v := ?_) rfl (by kernel_rfl) (by kernel_rfl) (by kernel_rfl) (fun _ _ _ h => h) (Or.inl ⟨by rfl, ?_⟩) (by assumption) ?_; rotate_left; (· (intro w hSw; go_simp; try with_reducible rfl)); refine wpAnyH_take (i := 2) (v := ?_) rfl (by kernel_rfl) (by kernel_rfl) (by kernel_rfl) (fun _ _ _ h => h) (Or.inl ⟨by rfl, ?_⟩) (by assumption) ?_; rotate_left; (· (intro w hSw; go_simp; try with_reducible rfl)); refine wpAnyH_take (i := 3) (v := ?_) rfl (by kernel_rfl) (by kernel_rfl) (by kernel_rfl) (fun _ _ _ h => h) (Or.inl ⟨by rfl, ?_⟩) (by assumption) ?_; rotate_left; (· (intro w hSw; go_simp; try with_reducible rfl)); refine wpAnyH_take (i := 5) (v := ?_) rfl (by kernel_rfl) (by kernel_rfl) (by kernel_rfl) (fun _ _ _ h => h) (Or.inl ⟨by rfl, ?_⟩) (by assumption) ?_; rotate_left; (· (intro w hSw; go_simp; try with_reducible rfl)); refine wpAnyH_take (i := 6) (v := ?_) rfl (by kernel_rfl) (by kernel_rfl) (by kernel_rfl) (fun _ _ _ h => h) (Or.inl ⟨by rfl, ?_⟩) (by assumption) ?_; rotate_left; (· (intro w hSw; go_simp; try with_reducible rfl)); refine wpAnyH_ready (rs := [4, 7]) (by kernel_rfl) (by simp) ?_; refine AllReadyH.cons rfl (fun K hK => ?_) ?_; go_simp; refine hK.out _ _ ?_ (fun hHeld => ?_); (· (exact trivial)); clear hK K; refine wpAnyH_ready (rs := [7]) (by kernel_rfl) (by simp) ?_; refine AllReadyH.cons rfl (fun K hK => ?_) ?_; go_simp; (first | (go_at_call 62; refine (HL.out _).mono ?_; rintro e w5 ⟨b5, k5, rfl, hO5, hk5⟩; have hq5 : Keep [] w w5 := ((Keep.refl [] w).drew).trans hk5 (by simp); have hB5 := HB.out.keep hq5 (by simp); have hO15 := HO.out.keep hq5 (by simp); have d1 : w5.cell? ⟨g, 1, none⟩ = some (.slice A l.length cap) := hB5.cell_eq rfl; have HB5 := Lib.hid hB5; have HO15 := Lib.hid hO15; have HO5 := Lib.hid hO5; have HQ5 := Lib.hid hq5; clear hq5 hB5 hO15 hO5 hk5) | fail); refine hK.out _ _ ?_ (fun hHeld => ?_); (· (exact trivial)); clear hK K; refine wpAnyH_ready (rs := [8]) (by kernel_rfl) (by simp) ?_; refine AllReadyH.cons rfl (fun K hK => ?_) ?_; (first | (obtain ⟨bc, oc, hbc, -, -, -, hbl5, hcl5⟩ := HO5.out.reads.cells (by rw [w16_len]; omega); injection hbc with hbc; injection hbc with hbc1 hbc2; subst hbc1 hbc2; refine step_append_us (by rfl) _ _ (by rfl) (by rfl) HO15.out (w16 n) ⟨b5, 0, none⟩ k5 2 rfl (by rfl) hcl5 (by rw [w16_len]; omega) (by have := HB5.out.lt; omega) ?_; intro A6 cap6 w6 ho6 hk6; have hB6 := HB5.out.keep hk6 (fun hc => by have := (HO15.out.lt g hc).1; omega); have z6 : w6.frozen? ⟨g, 1, none⟩ = false := hB6.frozen 1; have y6 : w6.cell? ⟨g, 1, none⟩ = some (.slice A l.length cap) := hB6.cell_eq rfl; have HB6 := Lib.hid hB6; have HO6 := Lib.hid ho6; have HK6 := Lib.hid hk6; clear hB6 ho6 hk6) | fail); refine hK.out _ _ ?_ (fun hHeld => ?_); (· (exact trivial)); clear hK K; refine wpAnyH_take (i := 9) (v := ?_) rfl (by kernel_rfl) (by kernel_rfl) (by kernel_rfl) (fun _ _ _ h => h) (Or.inl ⟨by rfl, ?_⟩) (by assumption) ?_; rotate_left; (· (intro w hSw; go_simp; try with_reducible rfl)); refine wpAnyH_take (i := 10) (v := ?_) rfl (by kernel_rfl) (by kernel_rfl) (by kernel_rfl) (fun _ _ _ h => h) (Or.inl ⟨by rfl, ?_⟩) (by assumption) ?_; rotate_left; (· (intro w hSw; go_simp; try with_reducible rfl)); refine wpAnyH_ready (rs := [11]) (by kernel_rfl) (by simp) ?_; refine AllReadyH.cons rfl (fun K hK => ?_) ?_; go_simp; refine hK.out _ _ ?_ (fun hHeld => ?_); (· (exact trivial)); clear hK K; refine wpAnyH_done (by kernel_rfl) ?_ _; refine NoPanic.normal ?_; rotate_left; exact AllReadyH.nil; exact AllReadyH.nil; exact AllReadyH.nil; refine AllReadyH.cons rfl (fun K hK => ?_) ?_; go_simp; (first | (go_at_call 62; refine (HL.out _).mono ?_; rintro e w5 ⟨b5, k5, rfl, hO5, hk5⟩; have hq5 : Keep [] w w5 := ((Keep.refl [] w).drew).trans hk5 (by simp); have hB5 := HB.out.keep hq5 (by simp); have hO15 := HO.out.keep hq5 (by simp); have d1 : w5.cell? ⟨g, 1, none⟩ = some (.slice A l.length cap) := hB5.cell_eq rfl; have HB5 := Lib.hid hB5; have HO15 := Lib.hid hO15; have HO5 := Lib.hid hO5; have HQ5 := Lib.hid hq5; clear hq5 hB5 hO15 hO5 hk5) | fail); refine hK.out _ _ ?_ (fun hHeld => ?_); (· (exact trivial)); clear hK K; refine wpAnyH_ready (rs := [4]) (by kernel_rfl) (by simp) ?_; refine AllReadyH.cons rfl (fun K hK => ?_) ?_; go_simp; refine hK.out _ _ ?_ (fun hHeld => ?_); (· (exact trivial)); clear hK K; refine wpAnyH_ready (rs := [8]) (by kernel_rfl) (by simp) ?_; refine AllReadyH.cons rfl (fun K hK => ?_) ?_; (first | (obtain ⟨bc, oc, hbc, -, -, -, hbl5, hcl5⟩ := HO5.out.reads.cells (by rw [w16_len]; omega); injection hbc with hbc; injection hbc with hbc1 hbc2; subst hbc1 hbc2; refine step_append_us (by rfl) _ _ (by rfl) (by rfl) HO15.out (w16 n) ⟨b5, 0, none⟩ k5 2 rfl (by rfl) hcl5 (by rw [w16_len]; omega) (by have := HB5.out.lt; omega) ?_; intro A6 cap6 w6 ho6 hk6; have hB6 := HB5.out.keep hk6 (fun hc => by have := (HO15.out.lt g hc).1; omega); have z6 : w6.frozen? ⟨g, 1, none⟩ = false := hB6.frozen 1; have y6 : w6.cell? ⟨g, 1, none⟩ = some (.slice A l.length cap) := hB6.cell_eq rfl; have HB6 := Lib.hid hB6; have HO6 := Lib.hid ho6; have HK6 := Lib.hid hk6; clear hB6 ho6 hk6) | fail); refine hK.out _ _ ?_ (fun hHeld => ?_); (· (exact trivial)); clear hK K; refine wpAnyH_take (i := 9) (v := ?_) rfl (by kernel_rfl) (by kernel_rfl) (by kernel_rfl) (fun _ _ _ h => h) (Or.inl ⟨by rfl, ?_⟩) (by assumption) ?_; rotate_left; (· (intro w hSw; go_simp; try with_reducible rfl)); refine wpAnyH_take (i := 10) (v := ?_) rfl (by kernel_rfl) (by kernel_rfl) (by kernel_rfl) (fun _ _ _ h => h) (Or.inl ⟨by rfl, ?_⟩) (by assumption) ?_; rotate_left; (· (intro w hSw; go_simp; try with_reducible rfl)); refine wpAnyH_ready (rs := [11]) (by kernel_rfl) (by simp) ?_; refine AllReadyH.cons rfl (fun K hK => ?_) ?_; go_simp; refine hK.out _ _ ?_ (fun hHeld => ?_); (· (exact trivial)); clear hK K; refine wpAnyH_done (by kernel_rfl) ?_ _; refine NoPanic.normal ?_; rotate_left; exact AllReadyH.nil; exact AllReadyH.nil; exact AllReadyH.nil; exact AllReadyH.nil)
  all_goals
    go_end0
    have hm := mk_app HO15.out HT.out hg HK.out HQ5.out HK6.out HB6.out HO6.out
    exact ⟨rfl, hm.1, hm.2⟩
set_option maxRecDepth 100000 in
set_option maxHeartbeats 4000000 in
theorem four20_any (w0 w : World) (g : Nat) (T : List ByteArray) (q : InP) (l : List UInt8) (n : Nat) (h : MkW w0 w g T q l) (hn : n < 4294967296) (hl : l.length ≤ 10000000) :
    Calls Tryz.prog 36 #[.pointer (some ⟨g, 0, none⟩), .int .i64 n] w fun e w' => e = .returned (.tuple #[]) ∧ MkW w0 w' g T q (l ++ w32 n) ∧ BM g w w' := by
  obtain ⟨tv, v, hB, hO, hT, hg, hK⟩ := h
  obtain ⟨A, cap, rfl⟩ := hO.form
  have HL : Hid (∀ W, Calls Tryz.prog 62 #[.int .u32 (n : Int), .int .i64 4] W fun e w' => ∃ b c, e = .returned (.slice (some ⟨b, 0, none⟩) 4 c) ∧ OwnU w' W.heap.size (.slice (some ⟨b, 0, none⟩) 4 c) (w32 n) ∧ Keep [] W w') := fun W => (by have h := low_any W n 4 (by omega) (by omega); rw [leB_four] at h; exact h)
  have c1 : w.cell? ⟨g, 1, none⟩ = some (.slice A l.length cap) := hB.cell_eq rfl
  have f1 : w.frozen? ⟨g, 1, none⟩ = false := hB.frozen 1
  have hgl := hB.lt
  have hw : IntKind.u32.wrap (n : Int) = (n : Int) := by rw [IntKind.wrap_u32]; omega
  have HB := Lib.hid hB
  have HO := Lib.hid hO
  have HT := Lib.hid hT
  have HK := Lib.hid hK
  clear hB hO hT hK
  go_enter Tryz.func36, Tryz.ntmps36
  go_upto_region 0 with fail
  (refine wp_region_noPanic ?_; refine wp_region_held_drew (S := (fun _ => True)) (by kernel_rfl) ?_ (fun hHeld => ?_); (· (exact trivial)); refine wpAnyH_take (i := 0) (v := ?_) rfl (by kernel_rfl) (by kernel_rfl) (by kernel_rfl) (fun _ _ _ h => h) (Or.inl ⟨by rfl, ?_⟩) (by assumption) ?_; rotate_left; (· (intro w hSw; go_simp; try with_reducible rfl)); refine wpAnyH_take (i := 1) (v := ?_) rfl (by kernel_rfl) (by kernel_rfl) (by kernel_rfl) (fun _ _ _ h => h) (Or.inl ⟨by rfl, ?_⟩) (by assumption) ?_; rotate_left; (· (intro w hSw; go_simp; try with_reducible rfl)); refine wpAnyH_take (i := 2) (v := ?_) rfl (by kernel_rfl) (by kernel_rfl) (by kernel_rfl) (fun _ _ _ h => h) (Or.inl ⟨by rfl, ?_⟩) (by assumption) ?_; rotate_left; (· (intro w hSw; go_simp; try with_reducible rfl)); refine wpAnyH_take (i := 3) (v := ?_) rfl (by kernel_rfl) (by kernel_rfl) (by kernel_rfl) (fun _ _ _ h => h) (Or.inl ⟨by rfl, ?_⟩) (by assumption) ?_; rotate_left; (· (intro w hSw; go_simp; try with_reducible rfl)); refine wpAnyH_take (i := 5) (v := ?_) rfl (by kernel_rfl) (by kernel_rfl) (by kernel_rfl) (fun _ _ _ h => h) (Or.inl ⟨by rfl, ?_⟩) (by assumption) ?_; rotate_left; (· (intro w hSw; go_simp; try with_reducible rfl)); refine wpAnyH_take (i := 6) (v := ?_) rfl (by kernel_rfl) (by kernel_rfl) (by kernel_rfl) (fun _ _ _ h => h) (Or.inl ⟨by rfl, ?_⟩) (by assumption) ?_; rotate_left; (· (intro w hSw; go_simp; try with_reducible rfl)); refine wpAnyH_ready (rs := [4, 7]) (by kernel_rfl) (by simp) ?_; refine AllReadyH.cons rfl (fun K hK => ?_) ?_; go_simp; refine hK.out _ _ ?_ (fun hHeld => ?_); (· (exact trivial)); clear hK K; refine wpAnyH_ready (rs := [7]) (by kernel_rfl) (by simp) ?_; refine AllReadyH.cons rfl (fun K hK => ?_) ?_; go_simp; (first | (go_at_call 62; refine (HL.out _).mono ?_; rintro e w5 ⟨b5, k5, rfl, hO5, hk5⟩; have hq5 : Keep [] w w5 := ((Keep.refl [] w).drew).trans hk5 (by simp); have hB5 := HB.out.keep hq5 (by simp); have hO15 := HO.out.keep hq5 (by simp); have d1 : w5.cell? ⟨g, 1, none⟩ = some (.slice A l.length cap) := hB5.cell_eq rfl; have HB5 := Lib.hid hB5; have HO15 := Lib.hid hO15; have HO5 := Lib.hid hO5; have HQ5 := Lib.hid hq5; clear hq5 hB5 hO15 hO5 hk5) | fail); refine hK.out _ _ ?_ (fun hHeld => ?_); (· (exact trivial)); clear hK K; refine wpAnyH_ready (rs := [8]) (by kernel_rfl) (by simp) ?_; refine AllReadyH.cons rfl (fun K hK => ?_) ?_; (first | (obtain ⟨bc, oc, hbc, -, -, -, hbl5, hcl5⟩ := HO5.out.reads.cells (by rw [w32_len]; omega); injection hbc with hbc; injection hbc with hbc1 hbc2; subst hbc1 hbc2; refine step_append_us (by rfl) _ _ (by rfl) (by rfl) HO15.out (w32 n) ⟨b5, 0, none⟩ k5 4 rfl (by rfl) hcl5 (by rw [w32_len]; omega) (by have := HB5.out.lt; omega) ?_; intro A6 cap6 w6 ho6 hk6; have hB6 := HB5.out.keep hk6 (fun hc => by have := (HO15.out.lt g hc).1; omega); have z6 : w6.frozen? ⟨g, 1, none⟩ = false := hB6.frozen 1; have y6 : w6.cell? ⟨g, 1, none⟩ = some (.slice A l.length cap) := hB6.cell_eq rfl; have HB6 := Lib.hid hB6; have HO6 := Lib.hid ho6; have HK6 := Lib.hid hk6; clear hB6 ho6 hk6) | fail); refine hK.out _ _ ?_ (fun hHeld => ?_); (· (exact trivial)); clear hK K; refine wpAnyH_take (i := 9) (v := ?_) rfl (by kernel_rfl) (by kernel_rfl) (by kernel_rfl) (fun _ _ _ h => h) (Or.inl ⟨by rfl, ?_⟩) (by assumption) ?_; rotate_left; (· (intro w hSw; go_simp; try with_reducible rfl)); refine wpAnyH_take (i := 10) (v := ?_) rfl (by kernel_rfl) (by kernel_rfl) (by kernel_rfl) (fun _ _ _ h => h) (Or.inl ⟨by rfl, ?_⟩) (by assumption) ?_; rotate_left; (· (intro w hSw; go_simp; try with_reducible rfl)); refine wpAnyH_ready (rs := [11]) (by kernel_rfl) (by simp) ?_; refine AllReadyH.cons rfl (fun K hK => ?_) ?_; go_simp; refine hK.out _ _ ?_ (fun hHeld => ?_); (· (exact trivial)); clear hK K; refine wpAnyH_done (by kernel_rfl) ?_ _; refine NoPanic.normal ?_; rotate_left; exact AllReadyH.nil; exact AllReadyH.nil; exact AllReadyH.nil; refine AllReadyH.cons rfl (fun K hK => ?_) ?_; go_simp; (first | (go_at_call 62; refine (HL.out _).mono ?_; rintro e w5 ⟨b5, k5, rfl, hO5, hk5⟩; have hq5 : Keep [] w w5 := ((Keep.refl [] w).drew).trans hk5 (by simp); have hB5 := HB.out.keep hq5 (by simp); have hO15 := HO.out.keep hq5 (by simp); have d1 : w5.cell? ⟨g, 1, none⟩ = some (.slice A l.length cap) := hB5.cell_eq rfl; have HB5 := Lib.hid hB5; have HO15 := Lib.hid hO15; have HO5 := Lib.hid hO5; have HQ5 := Lib.hid hq5; clear hq5 hB5 hO15 hO5 hk5) | fail); refine hK.out _ _ ?_ (fun hHeld => ?_); (· (exact trivial)); clear hK K; refine wpAnyH_ready (rs := [4]) (by kernel_rfl) (by simp) ?_; refine AllReadyH.cons rfl (fun K hK => ?_) ?_; go_simp; refine hK.out _ _ ?_ (fun hHeld => ?_); (· (exact trivial)); clear hK K; refine wpAnyH_ready (rs := [8]) (by kernel_rfl) (by simp) ?_; refine AllReadyH.cons rfl (fun K hK => ?_) ?_; (first | (obtain ⟨bc, oc, hbc, -, -, -, hbl5, hcl5⟩ := HO5.out.reads.cells (by rw [w32_len]; omega); injection hbc with hbc; injection hbc with hbc1 hbc2; subst hbc1 hbc2; refine step_append_us (by rfl) _ _ (by rfl) (by rfl) HO15.out (w32 n) ⟨b5, 0, none⟩ k5 4 rfl (by rfl) hcl5 (by rw [w32_len]; omega) (by have := HB5.out.lt; omega) ?_; intro A6 cap6 w6 ho6 hk6; have hB6 := HB5.out.keep hk6 (fun hc => by have := (HO15.out.lt g hc).1; omega); have z6 : w6.frozen? ⟨g, 1, none⟩ = false := hB6.frozen 1; have y6 : w6.cell? ⟨g, 1, none⟩ = some (.slice A l.length cap) := hB6.cell_eq rfl; have HB6 := Lib.hid hB6; have HO6 := Lib.hid ho6; have HK6 := Lib.hid hk6; clear hB6 ho6 hk6) | fail); refine hK.out _ _ ?_ (fun hHeld => ?_); (· (exact trivial)); clear hK K; refine wpAnyH_take (i := 9) (v := ?_) rfl (by kernel_rfl) (by kernel_rfl) (by kernel_rfl) (fun _ _ _ h => h) (Or.inl ⟨by rfl, ?_⟩) (by assumption) ?_; rotate_left; (· (intro w hSw; go_simp; try with_reducible rfl)); refine wpAnyH_take (i := 10) (v := ?_) rfl (by kernel_rfl) (by kernel_rfl) (by kernel_rfl) (fun _ _ _ h => h) (Or.inl ⟨by rfl, ?_⟩) (by assumption) ?_; rotate_left; (· (intro w hSw; go_simp; try with_reducible rfl)); refine wpAnyH_ready (rs := [11]) (by kernel_rfl) (by simp) ?_; refine AllReadyH.cons rfl (fun K hK => ?_) ?_; go_simp; refine hK.out _ _ ?_ (fun hHeld => ?_); (· (exact trivial)); clear hK K; refine wpAnyH_done (by kernel_rfl) ?_ _; refine NoPanic.normal ?_; rotate_left; exact AllReadyH.nil; exact AllReadyH.nil; exact AllReadyH.nil; exact AllReadyH.nil)
  all_goals
    go_end0
    have hm := mk_app HO15.out HT.out hg HK.out HQ5.out HK6.out HB6.out HO6.out
    exact ⟨rfl, hm.1, hm.2⟩
end Go.Proofs.YtmfoiceofhcicaaGreatDoor

namespace Go.Proofs.YtmfoiceofhcicaaGreatDoor
open Go.RowKit Go.IntWalk

/-- The number that is put for a text. -/
def numT (T : List ByteArray) (s : ByteArray) (nf : Bool) : Nat := if nf && noB s then 65535 else idxT T s
theorem idx_le {T : List ByteArray} {s : ByteArray} {k : Nat} (h : T[k]? = some s) : idxT T s ≤ k := by
  unfold idxT
  obtain ⟨hk, e⟩ := List.getElem?_eq_some_iff.1 h
  exact Nat.le_of_not_lt fun hlt => by
    have := List.not_of_lt_findIdx hlt
    simp [e] at this
theorem idx_eq {T : List ByteArray} {s : ByteArray} {k : Nat} (h : T[k]? = some s) (hn : s ∉ T.take k) : idxT T s = k := by
  have h1 := idx_le h
  rcases Nat.lt_or_ge (idxT T s) k with hl | hl
  · have hm := idxT_get (List.mem_of_getElem? h)
    exact absurd (List.mem_of_getElem? (show (T.take k)[idxT T s]? = some s by rw [List.getElem?_take_of_lt hl]; exact hm)) hn
  · omega
set_option maxRecDepth 100000 in
set_option maxHeartbeats 4000000 in
theorem text20_any (w0 w : World) (g : Nat) (T : List ByteArray) (q : InP) (l : List UInt8) (s : ByteArray) (nf : Bool) (h : MkW w0 w g T q l) (hs : s ∈ T ∨ (nf && noB s) = true) (hT : T.length ≤ 65535) (hl : l.length ≤ 10000000) :
    Calls Tryz.prog 60 #[.pointer (some ⟨g, 0, none⟩), .string s, .bool nf] w fun e w' => e = .returned (.tuple #[]) ∧ MkW w0 w' g T q (l ++ w16 (numT T s nf)) ∧ BM g w w' := by
  have HTW : Hid (∀ n, n < 65536 → Calls Tryz.prog 35 #[.pointer (some ⟨g, 0, none⟩), .int .i64 (n : Nat)] w fun e w' => e = .returned (.tuple #[]) ∧ MkW w0 w' g T q (l ++ w16 n) ∧ BM g w w') := fun n hn => two20_any w0 w g T q l n h (by omega) hl
  obtain ⟨tv, v, hB, -, ⟨A, cap, rfl, _, _, hat⟩, -⟩ := h
  have c0 : w.cell? ⟨g, 0, none⟩ = some (.slice A T.length cap) := hB.cell_eq rfl
  have hgl := hB.lt
  have HAT := Lib.hid hat
  clear hB hat
  by_cases hnf : (nf && noB s) = true
  · have HN : Hid (numT T s nf = 65535) := by unfold Hid numT; rw [if_pos hnf]
    obtain ⟨rfl, hn⟩ : nf = true ∧ noB s = true := by simpa using hnf
    have e1 : s.toList.isEmpty = true := by rw [empT, hn]
    have H2 := Lib.hid (HTW.out 65535 (by omega))
    clear hnf hn
    go_enter Tryz.func60, Tryz.ntmps60
    go_wp2_with (go_at_call 35; refine H2.out.mono ?_; rintro e w5 ⟨rfl, hM5, hb5⟩)
    refine bodyPost_ret (results_none rfl _ _ _) rfl ?_
    rw [HN.out]
    exact ⟨rfl, hM5, hb5⟩
  · have hm : s ∈ T := hs.resolve_right hnf
    have HN : Hid (numT T s nf = idxT T s) := by unfold Hid numT; rw [if_neg hnf]
    have HM := Lib.hid hm
    have hw : ∀ e1 : Bool, s.toList.isEmpty = e1 → nf = false ∨ (nf = true ∧ e1 = false) := fun e1 h1 => by
      rw [empT] at h1
      cases nf with
      | false => exact .inl rfl
      | true =>
        refine .inr ⟨rfl, ?_⟩
        rw [← h1]
        simpa using hnf
    obtain ⟨e1, he1⟩ : ∃ e1, s.toList.isEmpty = e1 := ⟨_, rfl⟩
    have hw2 := hw e1 he1
    clear hs hm hnf hw
    go_enter Tryz.func60, Tryz.ntmps60
    rcases hw2 with rfl | ⟨rfl, rfl⟩
    all_goals
      go_wp2
      go_loopw [20] (fun i wr => ∃ k : Nat, k ≤ T.length ∧ i = .int .i64 k ∧ wr = w ∧ s ∉ T.take k) (fun i _ => T.length - (intOf i).toNat)
      case atStart => exact ⟨0, Nat.zero_le _, rfl, rfl, by simp⟩
      case round =>
        obtain ⟨k, hk, rfl, rfl, hn⟩ := hrel
        have HNI := Lib.hid hn
        clear hn
        by_cases hlt : k < T.length
        · obtain ⟨t, ht⟩ : ∃ t, T[k]? = some t := ⟨_, List.getElem?_eq_getElem hlt⟩
          obtain ⟨b, o, rfl, _, hbl, hcell⟩ := HAT.out (by omega)
          have a0 : wr.cell? ⟨b, o + k, none⟩ = some (.string t) := hcell k _ (by rw [List.getElem?_map, ht]; rfl)
          have hbe := bytes_beq t s
          have HTT := Lib.hid ht
          clear ht hcell
          by_cases hts : t = s
          · rw [decide_eq_true hts] at hbe
            have HI : Hid (idxT T s = k) := idx_eq (by rw [← hts]; exact HTT.out) HNI.out
            have H2 := Lib.hid (HTW.out k (by omega))
            clear hts
            go_wp2_with (go_at_call 35; refine H2.out.mono ?_; rintro e w5 ⟨rfl, hM5, hb5⟩)
            refine bodyPost_ret (results_none rfl _ _ _) rfl ?_
            rw [HN.out, HI.out]
            exact ⟨rfl, hM5, hb5⟩
          · rw [decide_eq_false hts] at hbe
            have HN2 : Hid (s ∉ T.take (k + 1)) := by
              unfold Hid
              rw [take_snoc' HTT.out, List.mem_append, List.mem_singleton]
              rintro (h | h)
              · exact HNI.out h
              · exact hts h.symm
            clear hts
            go_wp2
            go_roundw
            case rel => exact ⟨k + 1, by omega, by go_num, by first | trivial | rfl, HN2.out⟩
            case measure => simp [intOf]; omega
        · obtain rfl : k = T.length := by omega
          have hn := HNI.out
          rw [List.take_length] at hn
          exact absurd HM.out hn
end Go.Proofs.YtmfoiceofhcicaaGreatDoor

namespace Go.Proofs.YtmfoiceofhcicaaGreatDoor
open Go.RowKit Go.IntWalk

theorem setL_eq (L ys : List UInt8) (a : Nat) (h : a + ys.length ≤ L.length) : setL L a ys = L.take a ++ (ys ++ L.drop (a + ys.length)) := by
  have h1 := setL_mid ys ((L.drop a).take ys.length) (L.take a) (L.drop (a + ys.length)) (by rw [List.length_take, List.length_drop]; omega)
  have e : L.take a ++ ((L.drop a).take ys.length ++ L.drop (a + ys.length)) = L := by
    rw [← List.drop_drop, List.take_append_drop, List.take_append_drop]
  rw [e, List.length_take, Nat.min_eq_left (by omega)] at h1
  exact h1
theorem keep_setRow (w : World) (b : Nat) (cs : Array Value) : Keep [b] w (w.setRow b cs) :=
  ⟨rfl, rfl, rfl, by simp [World.setRow], fun k _ hk => setRow_other w b k cs (by simpa using hk)⟩
/-- copy of four bytes into bytes of the call's own, at a step of a region that draws its order. -/
theorem step_set4 {ops : Array Oper} {o : Oper} {a : Act} {K : Act → World → Prop} {Q : Exit → Act → World → Prop} {E : Prop} (hgd : o.guard = none) (d s : Operand)
    (ho : o.op = .call { callee := .builtin .copy, args := #[d, s], argTypes := #[25, 25] }) {W : World} {B b m cap : Nat} {L : List UInt8} (hown : OwnU W B (.slice (some ⟨b, 0, none⟩) m cap) L) (p : Nat) (ys : List UInt8) (dl dc b5 k5 : Nat)
    (hd : a.eval d = .slice (some ⟨b, p, none⟩) dl dc) (hs : a.eval s = .slice (some ⟨b5, 0, none⟩) ys.length k5) (hdl : ys.length ≤ dl) (hsrc : ∀ j u, (ys.map cellU)[j]? = some u → W.cell? ((⟨b5, 0, none⟩ : Addr).add j) = some u) (hp : p + ys.length ≤ L.length)
    (h : ∀ w', OwnU w' B (.slice (some ⟨b, 0, none⟩) m cap) (setL L p ys) → Keep [b] W w' → K (a.put o.dst (goInt ys.length)) w') :
    if Region.wanted o (yielded ops a.tmps) = true then Oper.wp Tryz.prog o a W K Q else E := by
  have hw : Region.wanted o (yielded ops a.tmps) = true := by simp [Region.wanted, hgd]
  rw [if_pos hw]
  obtain ⟨A', c', he⟩ := hown.form
  injection he with _ hm _
  subst hm
  obtain ⟨i0, hi, hz0, hz1, hz2⟩ := info_parts infoU
  rcases hown.2 with ⟨h0, _⟩ | ⟨g, cap', cur, hv, hB, hg, h1, h2, h3, h4⟩
  · cases h0
  injection hv with e1 e2 e3
  injection e1 with e1
  injection e1 with e1
  subst e1; subst e3
  have hcs : L.length ≤ cur.size := by rw [h3]; omega
  have hrun := run_copy_row (P := Tryz.prog) W 25 25 o.type 5 b p dl dc ⟨b5, 0, none⟩ ys.length k5 cur 5 (ys.map cellU) Tryz.underlying25 (by rw [hi]; simp [hz1]) hg (by rw [List.length_map]; exact (Nat.min_eq_left hdl).symm) hsrc (by simp; omega) (by
    intro u hu
    obtain ⟨c, _, rfl⟩ := List.mem_map.1 hu
    rfl)
  unfold Oper.wp
  simp [execOp, ho, resolve, invoke, builtin, hd, hs, hrun, Result.andThen]
  have hlen : (setL L p ys).length = L.length := setL_len ys L p
  have hc : cur.toList = L.map cellU ++ cur.toList.drop L.length := by
    rw [← h4, Nat.mul_one]
    exact (List.take_append_drop _ _).symm
  have e : cur.toList.take p ++ (ys.map cellU ++ cur.toList.drop (p + ys.length)) = (setL L p ys).map cellU ++ cur.toList.drop L.length := by
    conv => lhs; rw [hc]
    rw [setL_eq L ys p hp, List.take_append_of_le_length (by simp; omega), List.drop_append_of_le_length (by simp; omega)]
    simp [List.map_append, List.map_take, List.map_drop]
  rw [e]
  refine h _ ?_ (keep_setRow W b _)
  refine ⟨by simp, .inr ⟨b, cap, _, by rw [hlen], hB, setRow_heap W b _ _ _ _ hg, by rw [hlen]; exact h1, h2, ?_, ?_⟩⟩
  · have := congrArg List.length hc
    simp only [List.length_append, List.length_map, Array.length_toList] at this
    rw [← h3, List.size_toArray, List.length_append, List.length_map, hlen]
    omega
  · simp [hlen]
/-- What the maker's place holds. -/
theorem MkW.cells {w0 w : World} {g : Nat} {T : List ByteArray} {q : InP} {l : List UInt8} (h : MkW w0 w g T q l) (hl : 0 < l.length) : ∃ tv b cap, Blk w g 82 #[tv, .slice (some ⟨b, 0, none⟩) l.length cap, .string q.1, .int .i64 q.2] ∧ OwnU w (g + 1) (.slice (some ⟨b, 0, none⟩) l.length cap) l := by
  obtain ⟨tv, v, hB, hO, -⟩ := h
  obtain ⟨b, m, cap, rfl⟩ := own_some hO hl
  obtain ⟨A, c, he⟩ := hO.form
  injection he with _ hm _
  subst hm
  exact ⟨tv, b, cap, hB, hO⟩
set_option maxRecDepth 100000 in
set_option maxHeartbeats 4000000 in
theorem set20_any (w0 w : World) (g : Nat) (T : List ByteArray) (q : InP) (l : List UInt8) (p n : Nat) (h : MkW w0 w g T q l) (hp : p + 4 ≤ l.length) (hn : n < 4294967296) (hl : l.length ≤ 10000000) :
    Calls Tryz.prog 89 #[.pointer (some ⟨g, 0, none⟩), .int .i64 p, .int .i64 n] w fun e w' => e = .returned (.tuple #[]) ∧ MkW w0 w' g T q (setL l p (w32 n)) ∧ BM g w w' ∧ ∀ tv v, Blk w g 82 #[tv, v, .string q.1, .int .i64 q.2] → Blk w' g 82 #[tv, v, .string q.1, .int .i64 q.2] := by
  obtain ⟨tv, v, hB, hO, hT, hg, hK⟩ := h
  obtain ⟨b, cap, rfl⟩ : ∃ b cap, v = .slice (some ⟨b, 0, none⟩) l.length cap := by
    obtain ⟨b, m, cap, rfl⟩ := own_some hO (by omega)
    obtain ⟨A', c', he⟩ := hO.form
    injection he with _ hm _
    exact ⟨b, cap, by rw [hm]⟩
  have hlc : l.length ≤ cap := by
    rcases hO.2 with ⟨h0, _⟩ | ⟨g', cap', cur, hv, _, _, h1, _⟩
    · cases h0
    · injection hv with _ _ e3
      subst e3
      exact h1
  have HL : Hid (∀ W, Calls Tryz.prog 62 #[.int .u32 (n : Int), .int .i64 4] W fun e w' => ∃ b c, e = .returned (.slice (some ⟨b, 0, none⟩) 4 c) ∧ OwnU w' W.heap.size (.slice (some ⟨b, 0, none⟩) 4 c) (w32 n) ∧ Keep [] W w') := fun W => (by have h := low_any W n 4 (by omega) (by omega); rw [leB_four] at h; exact h)
  have c1 : w.cell? ⟨g, 1, none⟩ = some (.slice (some ⟨b, 0, none⟩) l.length cap) := hB.cell_eq rfl
  have hgl := hB.lt
  have hw : IntKind.u32.wrap (n : Int) = (n : Int) := by rw [IntKind.wrap_u32]; omega
  have i1 : (0 : Int) ≤ (p : Int) := by omega
  have i2 : (p : Int) ≤ (l.length : Int) := by omega
  have i3 : (p : Int) ≤ (cap : Int) := by omega
  have hcp : ¬ cap = p := by omega
  have HB := Lib.hid hB
  have HO := Lib.hid hO
  have HT := Lib.hid hT
  have HK := Lib.hid hK
  have hgb : ∀ x ∈ (Value.slice (some ⟨b, 0, none⟩) l.length cap).ownBlock.toList, g + 1 ≤ x := fun x hx => (hO.lt x hx).1
  have HGB := Lib.hid hgb
  clear hB hO hT hK hgb
  go_enter Tryz.func89, Tryz.ntmps89
  go_upto_region 0 with fail
  (refine wp_region_noPanic ?_; refine wp_region_held_drew (S := (fun W => W.cell? ⟨g, 1, none⟩ = some (.slice (some ⟨b, 0, none⟩) l.length cap))) (by kernel_rfl) ?_ (fun hHeld => ?_); (· (first | exact c1 | exact d1 | exact y6)); refine wpAnyH_take (i := 0) (v := ?_) rfl (by kernel_rfl) (by kernel_rfl) (by kernel_rfl) (fun _ _ _ h => h) (Or.inl ⟨by rfl, ?_⟩) (by assumption) ?_; rotate_left; (· (intro w hSw; go_simp; try with_reducible rfl)); refine wpAnyH_take (i := 1) (v := ?_) rfl (by kernel_rfl) (by kernel_rfl) (by kernel_rfl) (fun _ _ _ h => h) (Or.inl ⟨by rfl, ?_⟩) (by assumption) ?_; rotate_left; (· (intro w hSw; go_simp; try with_reducible rfl)); refine wpAnyH_take (i := 2) (v := ?_) rfl (by kernel_rfl) (by kernel_rfl) (by kernel_rfl) (fun _ _ _ h => h) (Or.inl ⟨by rfl, ?_⟩) (by assumption) ?_; rotate_left; (· (intro w hSw; go_simp; try with_reducible rfl)); refine wpAnyH_take (i := 3) (v := ?_) rfl (by kernel_rfl) (by kernel_rfl) (by kernel_rfl) (fun _ _ _ h => h) (Or.inl ⟨by rfl, ?_⟩) (by assumption) ?_; rotate_left; (· (intro w hSw; go_simp; try with_reducible rfl)); refine wpAnyH_take (i := 4) (v := ?_) rfl (by kernel_rfl) (by kernel_rfl) (by kernel_rfl) (fun _ _ _ h => h) (Or.inl ⟨by rfl, ?_⟩) (by assumption) ?_; rotate_left; (· (intro w hSw; go_simp; try with_reducible rfl)); refine wpAnyH_take (i := 5) (v := ?_) rfl (by kernel_rfl) (by kernel_rfl) (by kernel_rfl) (fun _ _ _ h => h) (Or.inl ⟨by rfl, ?_⟩) (by assumption) ?_; rotate_left; (· (intro w hSw; go_simp; try with_reducible rfl)); refine wpAnyH_take (i := 6) (v := ?_) rfl (by kernel_rfl) (by kernel_rfl) (by kernel_rfl) (fun _ _ _ h => h) (Or.inl ⟨by rfl, ?_⟩) (by assumption) ?_; rotate_left; (· (intro w hSw; go_simp; try with_reducible rfl)); refine wpAnyH_take (i := 7) (v := ?_) rfl (by kernel_rfl) (by kernel_rfl) (by kernel_rfl) (fun _ _ _ h => h) (Or.inl ⟨by rfl, ?_⟩) (by assumption) ?_; rotate_left; (· (intro w hSw; go_simp; try with_reducible rfl)); refine wpAnyH_ready (rs := [8]) (by kernel_rfl) (by simp) ?_; refine AllReadyH.cons rfl (fun K hK => ?_) ?_; go_simp; (first | (go_at_call 62; refine (HL.out _).mono ?_; rintro e w5 ⟨b5, k5, rfl, hO5, hk5⟩; have hq5 : Keep [] w w5 := ((Keep.refl [] w).drew).trans hk5 (by simp); have hB5 := HB.out.keep hq5 (by simp); have hO15 := HO.out.keep hq5 (by simp); have d1 : w5.cell? ⟨g, 1, none⟩ = some (.slice (some ⟨b, 0, none⟩) l.length cap) := hB5.cell_eq rfl; have HB5 := Lib.hid hB5; have HO15 := Lib.hid hO15; have HO5 := Lib.hid hO5; have HQ5 := Lib.hid hq5; clear hq5 hB5 hO15 hO5 hk5) | fail); refine hK.out _ _ ?_ (fun hHeld => ?_); (· (first | exact c1 | exact d1 | exact y6)); clear hK K; refine wpAnyH_ready (rs := [9]) (by kernel_rfl) (by simp) ?_; refine AllReadyH.cons rfl (fun K hK => ?_) ?_; (first | (obtain ⟨bc, oc, hbc, -, -, -, hbl5, hcl5⟩ := HO5.out.reads.cells (by rw [w32_len]; omega); injection hbc with hbc; injection hbc with hbc1 hbc2; subst hbc1 hbc2; refine step_set4 (by rfl) _ _ (by rfl) HO15.out p (w32 n) (l.length - p) (cap - p) b5 k5 (by rfl) (by rfl) (by rw [w32_len]; omega) hcl5 (by rw [w32_len]; exact hp) ?_; intro w6 ho6 hk6; have hB6 := HB5.out.keep hk6 (fun hc => by have := HGB.out g (by simpa [Value.ownBlock] using hc); omega); have y6 : w6.cell? ⟨g, 1, none⟩ = some (.slice (some ⟨b, 0, none⟩) l.length cap) := hB6.cell_eq rfl; have HB6 := Lib.hid hB6; have HO6 := Lib.hid ho6; have HK6 := Lib.hid hk6; clear hB6 ho6 hk6) | fail); refine hK.out _ _ ?_ (fun hHeld => ?_); (· (first | exact c1 | exact d1 | exact y6)); clear hK K; refine wpAnyH_done (by kernel_rfl) ?_ _; refine NoPanic.normal ?_; rotate_left; exact AllReadyH.nil; exact AllReadyH.nil)
  all_goals
    go_end0
    have hbg : g + 1 ≤ b := HGB.out b (by simp [Value.ownBlock])
    have hT6 : RdC (fun x => x < g) w6 tv T.length (T.map Value.string) := (HT.out.keep HQ5.out (by simp)).keep HK6.out (fun x hx hc => by simp at hx; omega)
    refine ⟨rfl, ⟨tv, _, HB6.out, HO6.out, hT6, hg, (HK.out.nil HQ5.out).trans HK6.out (fun x hx => .inr (by simp at hx; omega))⟩, ?_, fun tv' v' hx => (hx.keep HQ5.out (by simp)).keep HK6.out (by simp; omega)⟩
    exact (BM.of HQ5.out).trans (BM.own HO15.out (HK6.out.mono fun x hx => .inl (by simp at hx; simp [hx, Value.ownBlock])))
end Go.Proofs.YtmfoiceofhcicaaGreatDoor

namespace Go.Proofs.YtmfoiceofhcicaaGreatDoor
open Go.RowKit Go.IntWalk

section
variable {w0 w w' : World} {g : Nat} {T : List ByteArray} {q : InP} {L : List UInt8}
theorem MkW.nil (h : MkW w0 w g T q L) (hk : Keep [] w w') : MkW w0 w' g T q L := by
  obtain ⟨tv, v, hB, hO, hT, hg, hK⟩ := h
  exact ⟨tv, v, hB.keep hk (by simp), hO.keep hk (by simp), hT.keep hk (by simp), hg, hK.nil hk⟩
theorem MkW.lt (h : MkW w0 w g T q L) : g < w.heap.size ∧ w0.heap.size ≤ g := by
  obtain ⟨tv, v, hB, hO, hT, hg, hK⟩ := h
  exact ⟨hB.lt, hg⟩
theorem MkW.base (h : MkW w0 w g T q L) : Keep [] w0 w := by
  obtain ⟨tv, v, hB, hO, hT, hg, hK⟩ := h
  exact hK
theorem MkW.qs (h : MkW w0 w g T q L) : w.cell? ⟨g, 2, none⟩ = some (.string q.1) ∧ w.cell? ⟨g, 3, none⟩ = some (.int .i64 q.2) := by
  obtain ⟨tv, v, hB, hO, hT, hg, hK⟩ := h
  exact ⟨hB.cell_eq rfl, hB.cell_eq rfl⟩
/-- One byte put behind. -/
theorem MkW.one (h : MkW w0 w g T q L) : ∃ A m c, w.cell? ⟨g, 1, none⟩ = some (.slice A m c) ∧ OwnU w (g + 1) (.slice A m c) L ∧ g + 1 ≤ w.heap.size ∧
    ∀ (b : UInt8) (w5 : World) (v5 : Value), OwnU w5 (g + 1) v5 (L ++ [b]) → Keep (Value.slice A m c).ownBlock.toList w w5 → MkW w0 (w5.setCell ⟨g, 1, none⟩ v5) g T q (L ++ [b]) ∧ BM g w (w5.setCell ⟨g, 1, none⟩ v5) ∧ w5.cell? ⟨g, 1, none⟩ = some (.slice A m c) ∧ w5.frozen? ⟨g, 1, none⟩ = false := by
  obtain ⟨tv, v, hB, hO, hT, hg, hK⟩ := h
  obtain ⟨A, m, c, rfl⟩ := hO.formM
  refine ⟨A, m, c, hB.cell_eq rfl, hO, hB.lt, fun b w5 v5 h5 hk => ?_⟩
  have hB5 := hB.keep hk (fun hc => by have := (hO.lt g hc).1; omega)
  have hm := mk_app hO hT hg hK (Keep.refl [] w) hk hB5 h5
  exact ⟨hm.1, hm.2, hB5.cell_eq rfl, hB5.frozen 1⟩
end
theorem plain_off {p : PT} {h : Bool} (hp : plainB p h = true) (hk : p.k = 4 ∨ p.k = 5 ∨ p.k = 6) : 0 ≤ p.off ∧ p.off ≤ 999999999 := by
  unfold plainB at hp
  rw [if_neg (by omega), if_neg (by omega), if_neg (by omega), if_pos hk] at hp
  simp only [Bool.and_eq_true, decide_eq_true_iff] at hp
  exact hp.1.1.1.1.1.1
theorem plain_hash {p : PT} {h : Bool} (hp : plainB p h = true) (hk : p.k = 2) : h = true := by
  unfold plainB at hp
  rw [if_neg (by omega), if_pos hk] at hp
  simp only [Bool.and_eq_true] at hp
  exact hp.1.1.1.1.1.1
def PaM (n : Nat) : Prop := ∀ (l : List PT) (h : Bool) (S : Nat → Prop) (v : Value) (w0 w : World) (g : Nat) (T : List ByteArray) (q : InP) (L : List UInt8), rightF n l h = true → (h = true → q.1 ∈ T ∧ 0 ≤ q.2 ∧ q.2 ≤ 999999999) → Lies n S w0 v l → MkW w0 w g T q L → (∀ s ∈ textF n l, s ∈ T) → T.length ≤ 65535 → L.length + lenF n l ≤ 1000000 →
  Calls Tryz.prog 34 #[.pointer (some ⟨g, 0, none⟩), v] w fun e w' => e = .returned (.tuple #[]) ∧ MkW w0 w' g T q (L ++ codF T n q L.length l) ∧ BM g w w'
def ChM (n : Nat) : Prop := ∀ (p : PT) (cv : Value) (h : Bool) (S : Nat → Prop) (w0 w : World) (g : Nat) (T : List ByteArray) (q : InP) (L : List UInt8), plainB p h = true → (p.k = 4 ∨ p.k = 5 ∨ p.k = 6) → caseR (fun m => rightF n m (decide (p.k ≠ 4))) p.k [] p.cs = true → LiesC n S w0 cv p.cs → MkW w0 w g T q L → p.nm ∈ T → (∀ s ∈ caseT (textF n) p.cs, s ∈ T) → T.length ≤ 65535 → L.length + lenP (lenF n) p ≤ 1000000 →
  Calls Tryz.prog 61 #[.pointer (some ⟨g, 0, none⟩), .agg #[.int .i64 p.k, .string p.tx, .string p.nm, .string p.ty, .string p.st, .int .i64 p.off, cv]] w fun e w' => e = .returned (.tuple #[]) ∧ MkW w0 w' g T q (L ++ codP T (codF T n) (lenF n) q L.length p) ∧ BM g w w'
theorem numT_opt (T : List ByteArray) (s : ByteArray) : numT T s true = optI T s := by
  unfold numT optI
  simp
theorem opt_in {T : List ByteArray} {s : ByteArray} (h : ∀ x ∈ optT s, x ∈ T) : s ∈ T ∨ (true && noB s) = true := by
  cases hn : noB s with
  | true => exact .inr rfl
  | false => exact .inl (h s (by unfold optT; rw [hn]; simp))
set_option maxRecDepth 100000 in
set_option maxHeartbeats 8000000 in
theorem parts20_step (n : Nat) (ihC : ChM n) : PaM (n + 1) := by
  intro l h S v w0 w g T q L hr hh hL hM ht hT hln
  obtain ⟨A, cap, rfl, hml, hat⟩ := lies_open hL
  have HAT := Lib.hid hat
  have HIC := Lib.hid ihC
  have HR := Lib.hid (show rightL (rightF n) h 0 l = true from hr)
  have HTX : Hid (∀ t ∈ textL (textF n) l, t ∈ T) := ht
  have HH := Lib.hid hh
  have HM := Lib.hid hM
  have hll : L.length + lenL (lenF n) l ≤ 1000000 := hln
  have hln2 : l.length ≤ 1000000 := by
    have h1 : ∀ l : List PT, l.length ≤ lenL (lenF n) l := fun l => by
      induction l with
      | nil => exact Nat.zero_le _
      | cons x r ih =>
        have h3 : 1 ≤ lenP (lenF n) x := by
          unfold lenP
          split
          · omega
          · split
            · omega
            · split <;> omega
        simp only [List.length_cons, lenL]
        omega
    have := h1 l
    omega
  clear hL hat hr ht hh hM ihC hml hln
  go_enter Tryz.func34, Tryz.ntmps34
  go_wp2
  go_loopw [8] (fun i wr => ∃ k : Nat, k ≤ l.length ∧ i = .int .i64 k ∧ MkW w0 wr g T q (L ++ codL T (codF T n) (lenF n) q L.length (l.take k)) ∧ BM g w wr) (fun i _ => l.length - (intOf i).toNat)
  case atStart => exact ⟨0, Nat.zero_le _, rfl, by simpa [codL] using HM.out, BM.refl _ _⟩
  case round =>
    obtain ⟨k, hk, rfl, hMr, hBr⟩ := hrel
    have HMR := Lib.hid hMr
    have HBR := Lib.hid hBr
    by_cases hlt : k < l.length
    · obtain ⟨p, hp⟩ : ∃ p, l[k]? = some p := ⟨_, List.getElem?_eq_getElem hlt⟩
      obtain ⟨bb, o, cv, rfl, hbb, hP, hC⟩ := HAT.out k p hp
      obtain ⟨a0, a1, a2, a3, a4, a5, a6⟩ := hP.keepB hMr.base hbb (by simp)
      obtain ⟨Ac, cc, rfl⟩ := hC.formL
      have HC := Lib.hid hC
      obtain ⟨hpl, hcr⟩ := rightL_at HR.out hp
      have hpk := plain_kinds hpl
      have HPT : Hid (∀ t ∈ partT (textF n) p, t ∈ T) := fun t hx => HTX.out t (textL_at hp hx)
      have hlt1 := lenL_take (L := lenF n) hp
      have hlt2 := lenL_take_le (lenF n) l (k + 1)
      have hLA : (L ++ codL T (codF T n) (lenF n) q L.length (l.take k)).length = L.length + lenL (lenF n) (l.take k) := by
        rw [List.length_append, codL_len (codF_len T n)]
      obtain ⟨L1, hL1⟩ : ∃ L1, L ++ codL T (codF T n) (lenF n) q L.length (l.take k) = L1 := ⟨_, rfl⟩
      have HCT : Hid (L ++ codL T (codF T n) (lenF n) q L.length (l.take (k + 1)) = L1 ++ codP T (codF T n) (lenF n) q L1.length p) := by
        unfold Hid
        rw [codL_take hp, ← List.append_assoc, hL1, ← hL1, hLA]
      rw [hL1] at HMR hLA
      have hb1 : L1.length + lenP (lenF n) p ≤ 1000000 := by omega
      have hbr := Nat.lt_of_lt_of_le hbb hMr.base.size
      have HPL := Lib.hid hpl
      have HCR := Lib.hid hcr
      clear hP hC hp hMr hBr hL1 hlt1 hlt2 hLA hpl hcr
      go_upto_region 5 with fail
      have hX : Blk (wr.alloc (.cells #[.int .i64 p.k, .string p.tx, .string p.nm, .string p.ty, .string p.st, .int .i64 p.off, .slice Ac p.cs.length cc] 68)) wr.heap.size 68 #[.int .i64 p.k, .string p.tx, .string p.nm, .string p.ty, .string p.st, .int .i64 p.off, .slice Ac p.cs.length cc] := Blk.new _ _ _
      have hkx : Keep [] wr (wr.alloc (.cells #[.int .i64 p.k, .string p.tx, .string p.nm, .string p.ty, .string p.st, .int .i64 p.off, .slice Ac p.cs.length cc] 68)) := (Keep.refl _ _).alloc _
      have hM1 := HMR.out.nil hkx
      have hB1 := HBR.out.trans (BM.of hkx)
      have hgx : g ≠ wr.heap.size := by have := HMR.out.lt.1; omega
      generalize wr.alloc (.cells #[.int .i64 p.k, .string p.tx, .string p.nm, .string p.ty, .string p.st, .int .i64 p.off, .slice Ac p.cs.length cc] 68) = W1 at *
      obtain ⟨pb, hpb⟩ : ∃ pb, wr.heap.size = pb := ⟨_, rfl⟩
      rw [hpb] at hX hgx ⊢
      have HX := Lib.hid hX
      have HM1 := Lib.hid hM1
      have HB1 := Lib.hid hB1
      have x0 : W1.cell? ⟨pb, 0, none⟩ = some (.int .i64 p.k) := hX.cell_eq rfl
      obtain ⟨Ab, mb, cb, c1, hO1, hz1, hone⟩ := hM1.one
      have HONE := Lib.hid hone
      have HO1 := Lib.hid hO1
      clear hX hM1 hB1 hkx a0 a1 a2 a3 a4 a5 a6 hpb hbr hbb hone hO1
      have HXB : Hid (∀ W, BM g W1 W → Blk W pb 68 #[.int .i64 p.k, .string p.tx, .string p.nm, .string p.ty, .string p.st, .int .i64 p.off, .slice Ac p.cs.length cc]) := fun W hW => hW.blk HX.out hgx.symm (by decide)
      rcases hpk with h1 | h2 | h3 | h4
      · have k1 : (p.k == 1) = true := by simp [h1]
        have HP : Hid (codP T (codF T n) (lenF n) q L1.length p = 1 :: w16 (numT T p.tx false)) := by unfold Hid codP; rw [if_pos h1]; rfl
        have hin : p.tx ∈ T := HPT.out _ (by unfold partT; rw [if_pos h1]; simp)
        clear h1
        go_upto_region 7 with (at_builtin; refine wpList_append_b rfl _ _ rfl rfl HO1.out 1 1 rfl rfl (by omega) hz1 ?_; intro v5 w5 ho5 hk5 hl5; obtain ⟨hM5, hb5, d5, z5⟩ := HONE.out 1 w5 v5 ho5 hk5; obtain ⟨A5, m5, c5, rfl⟩ := ho5.formM; have HM5 := Lib.hid hM5; have HB5 := Lib.hid hb5; clear ho5 hk5 hl5 hM5 hb5)
        generalize w5.setCell ⟨g, 1, none⟩ (.slice A5 m5 c5) = W5 at *
        have hX5 := HXB.out W5 HB5.out
        have hl1 : (L1 ++ [1]).length = L1.length + 1 := by simp
        clear d5 z5 c1 x0
        have y1 : W5.cell? ⟨pb, 1, none⟩ = some (.string p.tx) := hX5.cell_eq rfl
        have HT1 := Lib.hid (text20_any w0 W5 g T q (L1 ++ [1]) p.tx false HM5.out (.inl hin) hT (by omega))
        clear hX5
        go_wp2_with (go_at_call 60; refine HT1.out.mono ?_; rintro e w6 ⟨rfl, hM6, hb6⟩; have HM6 := Lib.hid hM6; have HB6 := Lib.hid hb6; clear hM6 hb6)
        go_roundw
        case rel => exact ⟨k + 1, by omega, by go_num, by rw [HCT.out, HP.out, show L1 ++ 1 :: w16 (numT T p.tx false) = (L1 ++ [1]) ++ w16 (numT T p.tx false) by simp]; exact HM6.out, (HB1.out.trans HB5.out).trans HB6.out⟩
        case measure => simp [intOf]; omega
      · have k1 : (p.k == 1) = false := by simp [h2]
        have k2 : (p.k == 2) = true := by simp [h2]
        have HP : Hid (codP T (codF T n) (lenF n) q L1.length p = 2 :: (w16 (numT T q.1 false) ++ w32 q.2.toNat)) := by unfold Hid codP; rw [if_neg (by omega), if_pos h2]; rfl
        obtain ⟨hin, hq0, hq1⟩ := HH.out (plain_hash HPL.out h2)
        clear h2
        go_upto_region 10 with (at_builtin; refine wpList_append_b rfl _ _ rfl rfl HO1.out 2 2 rfl rfl (by omega) hz1 ?_; intro v5 w5 ho5 hk5 hl5; obtain ⟨hM5, hb5, d5, z5⟩ := HONE.out 2 w5 v5 ho5 hk5; obtain ⟨A5, m5, c5, rfl⟩ := ho5.formM; have HM5 := Lib.hid hM5; have HB5 := Lib.hid hb5; clear ho5 hk5 hl5 hM5 hb5)
        generalize w5.setCell ⟨g, 1, none⟩ (.slice A5 m5 c5) = W5 at *
        have hX5 := HXB.out W5 HB5.out
        have hl1 : (L1 ++ [2]).length = L1.length + 1 := by simp
        clear d5 z5 c1 x0
        have y2 := HM5.out.qs.1
        have HT1 := Lib.hid (text20_any w0 W5 g T q (L1 ++ [2]) q.1 false HM5.out (.inl hin) hT (by omega))
        clear hX5
        go_wp2_with (first
          | (go_at_call 60; refine HT1.out.mono ?_; rintro e w6 ⟨rfl, hM6, hb6⟩; have y3 := hM6.qs.2; have h4 := four20_any w0 w6 g T q _ q.2.toNat hM6 (by omega) (by rw [List.length_append, w16_len]; omega); rw [Int.toNat_of_nonneg hq0] at h4; have HF4 := Lib.hid h4; have HB6 := Lib.hid hb6; clear hM6 hb6 h4 y2)
          | (go_at_call 36; refine HF4.out.mono ?_; rintro e w7 ⟨rfl, hM7, hb7⟩; have HM7 := Lib.hid hM7; have HB7 := Lib.hid hb7; clear hM7 hb7)
          | fail)
        go_roundw
        case rel => exact ⟨k + 1, by omega, by go_num, by rw [HCT.out, HP.out, show L1 ++ 2 :: (w16 (numT T q.1 false) ++ w32 q.2.toNat) = ((L1 ++ [2]) ++ w16 (numT T q.1 false)) ++ w32 q.2.toNat by simp]; exact HM7.out, ((HB1.out.trans HB5.out).trans HB6.out).trans HB7.out⟩
        case measure => simp [intOf]; omega
      · have k1 : (p.k == 1) = false := by simp [h3]
        have k2 : (p.k == 2) = false := by simp [h3]
        have k3 : (p.k == 3) = true := by simp [h3]
        have HP : Hid (codP T (codF T n) (lenF n) q L1.length p = 3 :: (w16 (numT T p.nm false) ++ w16 (numT T p.ty true) ++ w16 (numT T p.st true))) := by unfold Hid codP; rw [if_neg (by omega), if_neg (by omega), if_pos h3, numT_opt, numT_opt]; rfl
        have hpt : partT (textF n) p = p.nm :: (optT p.ty ++ optT p.st) := by unfold partT; rw [if_neg (by omega), if_neg (by omega), if_pos h3]
        have hin : p.nm ∈ T := HPT.out _ (by rw [hpt]; simp)
        have hi2 : p.ty ∈ T ∨ (true && noB p.ty) = true := opt_in fun x hx => HPT.out _ (by rw [hpt]; simp [hx])
        have hi3 : p.st ∈ T ∨ (true && noB p.st) = true := opt_in fun x hx => HPT.out _ (by rw [hpt]; simp [hx])
        clear h3 hpt
        go_upto_region 14 with (at_builtin; refine wpList_append_b rfl _ _ rfl rfl HO1.out 3 3 rfl rfl (by omega) hz1 ?_; intro v5 w5 ho5 hk5 hl5; obtain ⟨hM5, hb5, d5, z5⟩ := HONE.out 3 w5 v5 ho5 hk5; obtain ⟨A5, m5, c5, rfl⟩ := ho5.formM; have HM5 := Lib.hid hM5; have HB5 := Lib.hid hb5; clear ho5 hk5 hl5 hM5 hb5)
        generalize w5.setCell ⟨g, 1, none⟩ (.slice A5 m5 c5) = W5 at *
        have hX5 := HXB.out W5 HB5.out
        have hl1 : (L1 ++ [3]).length = L1.length + 1 := by simp
        clear d5 z5 c1 x0
        have y2 : W5.cell? ⟨pb, 2, none⟩ = some (.string p.nm) := hX5.cell_eq rfl
        have HT1 := Lib.hid (text20_any w0 W5 g T q (L1 ++ [3]) p.nm false HM5.out (.inl hin) hT (by omega))
        clear hX5
        go_wp2_with (first
          | (go_at_call 60; with_reducible refine HT1.out.mono ?_; rintro e w6 ⟨rfl, hM6, hb6⟩; have hX6 := HXB.out w6 (HB5.out.trans hb6); have y3 : w6.cell? ⟨pb, 3, none⟩ = some (.string p.ty) := hX6.cell_eq rfl; have HT2 := Lib.hid (text20_any w0 w6 g T q _ p.ty true hM6 hi2 hT (by rw [List.length_append, w16_len]; omega)); have HB6 := Lib.hid hb6; clear hM6 hb6 y2 hX6 HT1)
          | (go_at_call 60; with_reducible refine HT2.out.mono ?_; rintro e w7 ⟨rfl, hM7, hb7⟩; have hX7 := HXB.out w7 ((HB5.out.trans HB6.out).trans hb7); have y4 : w7.cell? ⟨pb, 4, none⟩ = some (.string p.st) := hX7.cell_eq rfl; have HT3 := Lib.hid (text20_any w0 w7 g T q _ p.st true hM7 hi3 hT (by rw [List.length_append, List.length_append, w16_len, w16_len]; omega)); have HB7 := Lib.hid hb7; clear hM7 hb7 y3 hX7 HT2)
          | (go_at_call 60; with_reducible refine HT3.out.mono ?_; rintro e w8 ⟨rfl, hM8, hb8⟩; have HM8 := Lib.hid hM8; have HB8 := Lib.hid hb8; clear hM8 hb8 y4 HT3)
          | fail)
        go_roundw
        case rel => exact ⟨k + 1, by omega, by go_num, by rw [HCT.out, HP.out, show L1 ++ 3 :: (w16 (numT T p.nm false) ++ w16 (numT T p.ty true) ++ w16 (numT T p.st true)) = (((L1 ++ [3]) ++ w16 (numT T p.nm false)) ++ w16 (numT T p.ty true)) ++ w16 (numT T p.st true) by simp]; exact HM8.out, (((HB1.out.trans HB5.out).trans HB6.out).trans HB7.out).trans HB8.out⟩
        case measure => simp [intOf]; omega
      · have k1 : (p.k == 1) = false := by simp; omega
        have k2 : (p.k == 2) = false := by simp; omega
        have k3 : (p.k == 3) = false := by simp; omega
        have hpt : partT (textF n) p = p.nm :: caseT (textF n) p.cs := by unfold partT; rw [if_neg (by omega), if_neg (by omega), if_neg (by omega)]
        have hX1 := HX.out
        have x1 : W1.cell? ⟨pb, 1, none⟩ = some (.string p.tx) := hX1.cell_eq rfl
        have x2 : W1.cell? ⟨pb, 2, none⟩ = some (.string p.nm) := hX1.cell_eq rfl
        have x3 : W1.cell? ⟨pb, 3, none⟩ = some (.string p.ty) := hX1.cell_eq rfl
        have x4 : W1.cell? ⟨pb, 4, none⟩ = some (.string p.st) := hX1.cell_eq rfl
        have x5 : W1.cell? ⟨pb, 5, none⟩ = some (.int .i64 p.off) := hX1.cell_eq rfl
        have x6 : W1.cell? ⟨pb, 6, none⟩ = some (.slice Ac p.cs.length cc) := hX1.cell_eq rfl
        have HCH := Lib.hid (HIC.out p _ h S w0 W1 g T q L1 HPL.out h4 HCR.out HC.out HM1.out (HPT.out _ (by rw [hpt]; simp)) (fun s hs => HPT.out s (by rw [hpt]; exact List.mem_cons_of_mem _ hs)) hT hb1)
        clear h4 hpt hX1
        go_wp2_with (go_at_call 61; refine HCH.out.mono ?_; rintro e w6 ⟨rfl, hM6, hb6⟩; have HM6 := Lib.hid hM6; have HB6 := Lib.hid hb6; clear hM6 hb6)
        go_roundw
        case rel => exact ⟨k + 1, by omega, by go_num, by rw [HCT.out]; exact HM6.out, HB1.out.trans HB6.out⟩
        case measure => simp [intOf]; omega
    · obtain rfl : k = l.length := by omega
      rw [List.take_length] at HMR
      go_wp2
      go_end0
      exact ⟨rfl, HMR.out, HBR.out⟩
end Go.Proofs.YtmfoiceofhcicaaGreatDoor

namespace Go.Proofs.YtmfoiceofhcicaaGreatDoor
open Go.RowKit Go.IntWalk

section
variable {w0 w w' : World} {g B : Nat} {T : List ByteArray} {q : InP} {L : List UInt8} {u : Value} {ns : List Nat}
theorem MkW.num (h : MkW w0 w g T q L) (hn : OwnN w B u ns) (hB : g < B) (hk : Keep u.ownBlock.toList w w') : MkW w0 w' g T q L := by
  obtain ⟨tv, v, hBl, hO, hT, hg, hK⟩ := h
  have hx : ∀ x ∈ u.ownBlock.toList, g < x := fun x hx => Nat.lt_of_lt_of_le hB (hn.lt x hx).1
  exact ⟨tv, v, hBl.keep hk (fun hc => by have := hx g hc; omega), hO.keep hk (fun x h1 h2 => own_un hn hO x h2 h1), hT.keep hk (fun x h1 h2 => by have := hx x h1; omega), hg, hK.trans hk (fun x h1 => .inr (by have := hx x h1; omega))⟩
theorem BM.ownN (h : BM g w w') (hn : OwnN w B u ns) (hB : g < B) : OwnN w' B u ns := by
  refine ⟨hn.1, ?_⟩
  rcases hn.2 with h0 | ⟨g', cap, cur, h1, h2, h3, h4⟩
  · exact .inl h0
  · exact .inr ⟨g', cap, cur, h1, h2, h g' _ h3 (by omega) (fun cs fr e => by injection e with _ e _; cases e), h4⟩
theorem BM.put (h : BM g w w') (hn : OwnN w' B u ns) (hB : w.heap.size ≤ B) {w2 : World} (hk : Keep u.ownBlock.toList w' w2) : BM g w w2 := fun x o ho hx ht => by
  have h1 := h x o ho hx ht
  rw [hk.block x (Array.getElem?_eq_some_iff.1 h1).1 (fun hc => by
    have := (hn.lt x hc).1
    have := (Array.getElem?_eq_some_iff.1 ho).1
    omega)]
  exact h1
theorem MkW.len (h : MkW w0 w g T q L) : ∃ A c, w.cell? ⟨g, 1, none⟩ = some (.slice A L.length c) := by
  obtain ⟨tv, v, hBl, hO, hT, hg, hK⟩ := h
  obtain ⟨A, c, rfl⟩ := hO.form
  exact ⟨A, c, hBl.cell_eq rfl⟩
theorem MkW.setq (h : MkW w0 w g T q L) (nm : ByteArray) (off : Int) : MkW w0 ((w.setCell ⟨g, 2, none⟩ (.string nm)).setCell ⟨g, 3, none⟩ (.int .i64 off)) g T (nm, off) L ∧ BM g w ((w.setCell ⟨g, 2, none⟩ (.string nm)).setCell ⟨g, 3, none⟩ (.int .i64 off)) ∧
    MkW w0 ((w.setCell ⟨g, 3, none⟩ (.int .i64 off)).setCell ⟨g, 2, none⟩ (.string nm)) g T (nm, off) L ∧ BM g w ((w.setCell ⟨g, 3, none⟩ (.int .i64 off)).setCell ⟨g, 2, none⟩ (.string nm)) := by
  obtain ⟨tv, v, hBl, hO, hT, hg, hK⟩ := h
  have h1 : Keep [g] w ((w.setCell ⟨g, 2, none⟩ (.string nm)).setCell ⟨g, 3, none⟩ (.int .i64 off)) := ((Keep.refl [g] w).setCell (.inl (by simp)) _).setCell (.inl (by simp)) _
  have h2 : Keep [g] w ((w.setCell ⟨g, 3, none⟩ (.int .i64 off)).setCell ⟨g, 2, none⟩ (.string nm)) := ((Keep.refl [g] w).setCell (.inl (by simp)) _).setCell (.inl (by simp)) _
  have hf : ∀ W, Keep [g] w W → BM g w W := fun W hW x o ho hx _ => by
    rw [hW.block x (Array.getElem?_eq_some_iff.1 ho).1 (by simpa using hx)]
    exact ho
  have hr : ∀ W, Keep [g] w W → Blk W g 82 #[tv, v, .string nm, .int .i64 off] → MkW w0 W g T (nm, off) L := fun W hW hb =>
    ⟨tv, v, hb, hO.keep hW (fun x hx hc => by have := (hO.lt x hx).1; simp at hc; omega), hT.keep hW (fun x hx hc => by simp at hx; omega), hg, hK.trans hW (fun x hx => .inr (by simp at hx; omega))⟩
  refine ⟨hr _ h1 ?_, hf _ h1, hr _ h2 ?_, hf _ h2⟩
  · have := Blk.set_ (Blk.set_ hBl 2 (.string nm)) 3 (.int .i64 off)
    simpa using this
  · have := Blk.set_ (Blk.set_ hBl 3 (.int .i64 off)) 2 (.string nm)
    simpa using this
theorem MkW.one2 (h : MkW w0 w g T q L) : ∃ A c, w.cell? ⟨g, 1, none⟩ = some (.slice A L.length c) ∧ OwnU w (g + 1) (.slice A L.length c) L ∧ g + 1 ≤ w.heap.size ∧
    ∀ (b : UInt8) (w5 : World) (v5 : Value), OwnU w5 (g + 1) v5 (L ++ [b]) → Keep (Value.slice A L.length c).ownBlock.toList w w5 → MkW w0 (w5.setCell ⟨g, 1, none⟩ v5) g T q (L ++ [b]) ∧ BM g w (w5.setCell ⟨g, 1, none⟩ v5) ∧ w5.cell? ⟨g, 1, none⟩ = some (.slice A L.length c) ∧ w5.frozen? ⟨g, 1, none⟩ = false := by
  obtain ⟨A, m, c, h1, h2, h3, h4⟩ := h.one
  have hm : m = L.length := by
    obtain ⟨A', c', he⟩ := h2.form
    injection he
  subst hm
  exact ⟨A, c, h1, h2, h3, h4⟩
theorem OwnN.at2 {hb m cap i n : Nat} (h : OwnN w B (.slice (some ⟨hb, 0, none⟩) m cap) ns) (hi : ns[i]? = some n) : w.cell? ⟨hb, i, none⟩ = some (.int .i64 (n : Int)) := by
  obtain ⟨b', c', he, hc⟩ := h.at hi
  injection he with e1 _ _
  injection e1 with e1
  injection e1 with e1
  rw [e1]
  exact hc
theorem OwnN.size (h : OwnN w B u ns) (hne : 0 < ns.length) : B < w.heap.size := by
  rcases h.2 with ⟨_, h0⟩ | ⟨g', cap, cur, _, h2, h3, _⟩
  · omega
  · exact Nat.lt_of_le_of_lt h2 (Array.getElem?_eq_some_iff.1 h3).1
theorem lenC_split (Q : List PT → Nat) : ∀ (cs : List CT) (k : Nat), lenC Q (cs.take k) + lenC Q (cs.drop k) = lenC Q cs
  | [], k => by simp [lenC]
  | c :: cs, 0 => by simp [lenC]
  | c :: cs, k + 1 => by
    have := lenC_split Q cs k
    simp only [List.take_succ_cons, List.drop_succ_cons, lenC]
    omega
theorem MkW.len2 (h : MkW w0 w g T q L) : ∃ tv A c, w.cell? ⟨g, 1, none⟩ = some (.slice A L.length c) ∧ Blk w g 82 #[tv, .slice A L.length c, .string q.1, .int .i64 q.2] := by
  obtain ⟨tv, v, hBl, hO, hT, hg, hK⟩ := h
  obtain ⟨A, c, rfl⟩ := hO.form
  exact ⟨tv, A, c, hBl.cell_eq rfl, hBl⟩
theorem MkW.frz (h : MkW w0 w g T q L) : w.frozen? ⟨g, 1, none⟩ = false ∧ w.frozen? ⟨g, 2, none⟩ = false ∧ w.frozen? ⟨g, 3, none⟩ = false := by
  obtain ⟨tv, v, hBl, -⟩ := h
  exact ⟨hBl.frozen 1, hBl.frozen 2, hBl.frozen 3⟩
end
set_option maxRecDepth 100000 in
set_option maxHeartbeats 16000000 in
theorem choice20_step (n : Nat) (ih : PaM n) : ChM n := by
  intro p cv h S w0 w g T q L hp hk456 hcr hL hM hnm hct hT hln
  obtain ⟨A, cap, rfl, -, hat⟩ := liesC_open hL
  have HAT := Lib.hid hat
  have HIH := Lib.hid ih
  have HCR := Lib.hid hcr
  have HCT := Lib.hid hct
  have HM := Lib.hid hM
  obtain ⟨ho0, ho1⟩ := plain_off hp hk456
  have hlp : lenP (lenF n) p = 9 + 6 * p.cs.length + lenC (lenF n) p.cs := by unfold lenP; rw [if_neg (by omega), if_neg (by omega), if_neg (by omega)]
  have HLP := Lib.hid hlp
  rw [hlp] at hln
  have hcz : cellU (UInt8.ofNat p.k.toNat) = .int .u8 p.k := by
    rcases hk456 with h | h | h <;> rw [h] <;> rfl
  have HCZ := Lib.hid hcz
  have hgl := hM.lt.1
  have z1 : IntKind.i64.wrap (p.k - 4) = p.k - 4 := by rw [IntKind.wrap_i64]; omega
  have z2 : IntKind.i64.wrap (p.k - 4 + 4) = p.k := by rw [IntKind.wrap_i64]; omega
  have z3 : IntKind.u8.wrap p.k = p.k := by rw [IntKind.wrap_u8]; omega
  have z4 : p.k % 256 = p.k := by omega
  have z5 : IntKind.i64.wrap p.k = p.k := by rw [IntKind.wrap_i64]; omega
  have HCQ : Hid (codP T (codF T n) (lenF n) q L.length p = UInt8.ofNat p.k.toNat :: (w16 (numT T p.nm false) ++ w32 p.off.toNat ++ w16 p.cs.length ++ headC T (lenF n) (L.length + 9 + 6 * p.cs.length) p.cs ++ bodyC (codF T n (inQ q p)) (lenF n) (L.length + lenP (lenF n) p) (L.length + 9 + 6 * p.cs.length) p.cs)) := by
    unfold Hid codP
    rw [if_neg (by omega), if_neg (by omega), if_neg (by omega)]
    rfl
  have HK4 := Lib.hid hk456
  have HNM := Lib.hid hnm
  clear hL hat ih hcr hct hM hp hlp hcz hnm
  go_enter Tryz.func61, Tryz.ntmps61
  go_upto_region 1 with fail
  have hX : Blk (w.alloc (.cells #[.int .i64 p.k, .string p.tx, .string p.nm, .string p.ty, .string p.st, .int .i64 p.off, .slice A p.cs.length cap] 68)) w.heap.size 68 #[.int .i64 p.k, .string p.tx, .string p.nm, .string p.ty, .string p.st, .int .i64 p.off, .slice A p.cs.length cap] := Blk.new _ _ _
  have hkx : Keep [] w (w.alloc (.cells #[.int .i64 p.k, .string p.tx, .string p.nm, .string p.ty, .string p.st, .int .i64 p.off, .slice A p.cs.length cap] 68)) := (Keep.refl _ _).alloc _
  have hM1 := HM.out.nil hkx
  have hB1 := BM.of (g := g) hkx
  have hw1 : (w.alloc (.cells #[.int .i64 p.k, .string p.tx, .string p.nm, .string p.ty, .string p.st, .int .i64 p.off, .slice A p.cs.length cap] 68)).heap.size = w.heap.size + 1 := by simp
  generalize w.alloc (.cells #[.int .i64 p.k, .string p.tx, .string p.nm, .string p.ty, .string p.st, .int .i64 p.off, .slice A p.cs.length cap] 68) = W1 at *
  obtain ⟨pb, hpb⟩ : ∃ pb, w.heap.size = pb := ⟨_, rfl⟩
  rw [hpb] at hX hw1 ⊢
  have hgx : pb ≠ g := by omega
  have HX := Lib.hid hX
  have HM1 := Lib.hid hM1
  have HB1 := Lib.hid hB1
  have HXB : Hid (∀ W, BM g W1 W → Blk W pb 68 #[.int .i64 p.k, .string p.tx, .string p.nm, .string p.ty, .string p.st, .int .i64 p.off, .slice A p.cs.length cap]) := fun W hW => hW.blk HX.out hgx (by decide)
  have x0 : W1.cell? ⟨pb, 0, none⟩ = some (.int .i64 p.k) := hX.cell_eq rfl
  obtain ⟨Ab, cb, c1, hO1, hz1, hone⟩ := hM1.one2
  have HONE := Lib.hid hone
  have HO1 := Lib.hid hO1
  clear hX hM1 hB1 hkx hone hO1
  go_cut [] (fun W => MkW w0 W g T q (L ++ [UInt8.ofNat p.k.toNat]) ∧ BM g W1 W)
  case first =>
    clear hw1
    have HOD := Lib.hid (HO1.out.keep (bs := []) (((Keep.refl [] W1).alloc (.cells #[.int .u8 p.k] 5)).drew) (by simp))
    have HKD : Hid (Keep [] W1 (W1.alloc (.cells #[.int .u8 p.k] 5)).drew) := ((Keep.refl [] W1).alloc _).drew
    have HND : Hid ((W1.alloc (.cells #[.int .u8 p.k] 5)).drew.cell? ⟨W1.heap.size, 0, none⟩ = some (cellU (UInt8.ofNat p.k.toNat))) := by
      unfold Hid
      rw [HCZ.out]
      exact ((Blk.new W1 5 #[.int .u8 p.k]).keep (Keep.drew (Keep.refl [] _)) (by simp)).cell_eq rfl
    have xd : (W1.alloc (.cells #[.int .u8 p.k] 5)).drew.cell? ⟨pb, 0, none⟩ = some (.int .i64 p.k) := (HX.out.keep HKD.out (by simp)).cell_eq rfl
    have cd : (W1.alloc (.cells #[.int .u8 p.k] 5)).drew.cell? ⟨g, 1, none⟩ = some (.slice Ab L.length cb) := (HKD.out.cell (p := ⟨g, 1, none⟩) (by simp only; omega) (by simp)).trans c1
    (refine wp_region_noPanic ?_; refine wp_region_held_drew (S := (fun W => W.cell? ⟨pb, 0, none⟩ = some (.int .i64 p.k))) (by kernel_rfl) ?_ (fun hHeld => ?_); (· (first | exact x0 | exact xd | exact x5 | exact (HXB.out _ HB5.out).cell_eq rfl | fail)); refine wpAnyH_take (i := 0) (v := ?_) rfl (by kernel_rfl) (by kernel_rfl) (by kernel_rfl) (fun _ _ _ h => h) (Or.inl ⟨by rfl, ?_⟩) (by assumption) ?_; rotate_left; (· (intro w hSw; go_simp; try with_reducible rfl)); refine wpAnyH_take (i := 1) (v := ?_) rfl (by kernel_rfl) (by kernel_rfl) (by kernel_rfl) (fun _ _ _ h => h) (Or.inl ⟨by rfl, ?_⟩) (by assumption) ?_; rotate_left; (· (intro w hSw; go_simp; try with_reducible rfl)); refine wpAnyH_take (i := 2) (v := ?_) rfl (by kernel_rfl) (by kernel_rfl) (by kernel_rfl) (fun _ _ _ h => h) (Or.inl ⟨by rfl, ?_⟩) (by assumption) ?_; rotate_left; (· (intro w hSw; go_simp; try with_reducible rfl)); refine wpAnyH_take (i := 3) (v := ?_) rfl (by kernel_rfl) (by kernel_rfl) (by kernel_rfl) (fun _ _ _ h => h) (Or.inl ⟨by rfl, ?_⟩) (by assumption) ?_; rotate_left; (· (intro w hSw; go_simp; try with_reducible rfl)); refine wpAnyH_take (i := 5) (v := ?_) rfl (by kernel_rfl) (by kernel_rfl) (by kernel_rfl) (fun _ _ _ h => h) (Or.inl ⟨by rfl, ?_⟩) (by assumption) ?_; rotate_left; (· (intro w hSw; go_simp; try with_reducible rfl)); refine wpAnyH_take (i := 6) (v := ?_) rfl (by kernel_rfl) (by kernel_rfl) (by kernel_rfl) (fun _ _ _ h => h) (Or.inl ⟨by rfl, ?_⟩) (by assumption) ?_; rotate_left; (· (intro w hSw; go_simp; try with_reducible rfl)); refine wpAnyH_take (i := 7) (v := ?_) rfl (by kernel_rfl) (by kernel_rfl) (by kernel_rfl) (fun _ _ _ h => h) (Or.inl ⟨by rfl, ?_⟩) (by assumption) ?_; rotate_left; (· (intro w hSw; go_simp; try with_reducible rfl)); refine wpAnyH_take (i := 8) (v := ?_) rfl (by kernel_rfl) (by kernel_rfl) (by kernel_rfl) (fun _ _ _ h => h) (Or.inl ⟨by rfl, ?_⟩) (by assumption) ?_; rotate_left; (· (intro w hSw; go_simp; try with_reducible rfl)); refine wpAnyH_take (i := 9) (v := ?_) rfl (by kernel_rfl) (by kernel_rfl) (by kernel_rfl) (fun _ _ _ h => h) (Or.inl ⟨by rfl, ?_⟩) (by assumption) ?_; rotate_left; (· (intro w hSw; go_simp; try with_reducible rfl)); refine wpAnyH_ready (rs := [4, 10]) (by kernel_rfl) (by simp) ?_; refine AllReadyH.cons rfl (fun K hK => ?_) ?_; go_simp; refine hK.out _ _ ?_ (fun hHeld => ?_); (· (first | exact x0 | exact xd | exact x5 | exact (HXB.out _ HB5.out).cell_eq rfl | fail)); clear hK K; refine wpAnyH_ready (rs := [10]) (by kernel_rfl) (by simp) ?_; refine AllReadyH.cons rfl (fun K hK => ?_) ?_; go_simp; refine hK.out _ _ ?_ (fun hHeld => ?_); (· (first | exact x0 | exact xd | exact x5 | exact (HXB.out _ HB5.out).cell_eq rfl | fail)); clear hK K; refine wpAnyH_ready (rs := [11]) (by kernel_rfl) (by simp) ?_; refine AllReadyH.cons rfl (fun K hK => ?_) ?_; (first | (refine step_snoc_u (w := (W1.alloc (.cells #[.int .u8 p.k] 5)).drew) (B := g + 1) (n := W1.heap.size) (by rfl) _ _ (by rfl) (by rfl) HOD.out (UInt8.ofNat p.k.toNat) (by rfl) HND.out (by omega) (by first | (simp; done) | (simp; omega)) ?_; intro A5 cap5 w5 ho5 hk5; have hkk : Keep (Value.slice Ab L.length cb).ownBlock.toList W1 w5 := (HKD.out.mono (fun x hx => by cases hx)).same hk5; obtain ⟨hM5, hb5, d5, y5⟩ := HONE.out (UInt8.ofNat p.k.toNat) w5 _ ho5 hkk; have x5 : w5.cell? ⟨pb, 0, none⟩ = some (.int .i64 p.k) := (HX.out.keep hkk (fun hc => own_blk_ne HO1.out HX.out (by decide) (by simpa using hc))).cell_eq rfl; have HM5 := Lib.hid hM5; have HB5 := Lib.hid hb5; clear hM5 hb5 hkk ho5 hk5) | fail); refine hK.out _ _ ?_ (fun hHeld => ?_); (· (first | exact x0 | exact xd | exact x5 | exact (HXB.out _ HB5.out).cell_eq rfl | fail)); clear hK K; refine wpAnyH_take (i := 12) (v := ?_) rfl (by kernel_rfl) (by kernel_rfl) (by kernel_rfl) (fun _ _ _ h => h) (Or.inl ⟨by rfl, ?_⟩) (by assumption) ?_; rotate_left; (· (intro w hSw; go_simp; try with_reducible rfl)); refine wpAnyH_take (i := 13) (v := ?_) rfl (by kernel_rfl) (by kernel_rfl) (by kernel_rfl) (fun _ _ _ h => h) (Or.inl ⟨by rfl, ?_⟩) (by assumption) ?_; rotate_left; (· (intro w hSw; go_simp; try with_reducible rfl)); refine wpAnyH_ready (rs := [14]) (by kernel_rfl) (by simp) ?_; refine AllReadyH.cons rfl (fun K hK => ?_) ?_; go_simp; refine hK.out _ _ ?_ (fun hHeld => ?_); (· (first | exact x0 | exact xd | exact x5 | exact (HXB.out _ HB5.out).cell_eq rfl | fail)); clear hK K; refine wpAnyH_done (by kernel_rfl) ?_ _; refine NoPanic.normal ?_; rotate_left; exact AllReadyH.nil; exact AllReadyH.nil; exact AllReadyH.nil; refine AllReadyH.cons rfl (fun K hK => ?_) ?_; go_simp; refine hK.out _ _ ?_ (fun hHeld => ?_); (· (first | exact x0 | exact xd | exact x5 | exact (HXB.out _ HB5.out).cell_eq rfl | fail)); clear hK K; refine wpAnyH_ready (rs := [4]) (by kernel_rfl) (by simp) ?_; refine AllReadyH.cons rfl (fun K hK => ?_) ?_; go_simp; refine hK.out _ _ ?_ (fun hHeld => ?_); (· (first | exact x0 | exact xd | exact x5 | exact (HXB.out _ HB5.out).cell_eq rfl | fail)); clear hK K; refine wpAnyH_ready (rs := [11]) (by kernel_rfl) (by simp) ?_; refine AllReadyH.cons rfl (fun K hK => ?_) ?_; (first | (refine step_snoc_u (w := (W1.alloc (.cells #[.int .u8 p.k] 5)).drew) (B := g + 1) (n := W1.heap.size) (by rfl) _ _ (by rfl) (by rfl) HOD.out (UInt8.ofNat p.k.toNat) (by rfl) HND.out (by omega) (by first | (simp; done) | (simp; omega)) ?_; intro A5 cap5 w5 ho5 hk5; have hkk : Keep (Value.slice Ab L.length cb).ownBlock.toList W1 w5 := (HKD.out.mono (fun x hx => by cases hx)).same hk5; obtain ⟨hM5, hb5, d5, y5⟩ := HONE.out (UInt8.ofNat p.k.toNat) w5 _ ho5 hkk; have x5 : w5.cell? ⟨pb, 0, none⟩ = some (.int .i64 p.k) := (HX.out.keep hkk (fun hc => own_blk_ne HO1.out HX.out (by decide) (by simpa using hc))).cell_eq rfl; have HM5 := Lib.hid hM5; have HB5 := Lib.hid hb5; clear hM5 hb5 hkk ho5 hk5) | fail); refine hK.out _ _ ?_ (fun hHeld => ?_); (· (first | exact x0 | exact xd | exact x5 | exact (HXB.out _ HB5.out).cell_eq rfl | fail)); clear hK K; refine wpAnyH_take (i := 12) (v := ?_) rfl (by kernel_rfl) (by kernel_rfl) (by kernel_rfl) (fun _ _ _ h => h) (Or.inl ⟨by rfl, ?_⟩) (by assumption) ?_; rotate_left; (· (intro w hSw; go_simp; try with_reducible rfl)); refine wpAnyH_take (i := 13) (v := ?_) rfl (by kernel_rfl) (by kernel_rfl) (by kernel_rfl) (fun _ _ _ h => h) (Or.inl ⟨by rfl, ?_⟩) (by assumption) ?_; rotate_left; (· (intro w hSw; go_simp; try with_reducible rfl)); refine wpAnyH_ready (rs := [14]) (by kernel_rfl) (by simp) ?_; refine AllReadyH.cons rfl (fun K hK => ?_) ?_; go_simp; refine hK.out _ _ ?_ (fun hHeld => ?_); (· (first | exact x0 | exact xd | exact x5 | exact (HXB.out _ HB5.out).cell_eq rfl | fail)); clear hK K; refine wpAnyH_done (by kernel_rfl) ?_ _; refine NoPanic.normal ?_; rotate_left; exact AllReadyH.nil; exact AllReadyH.nil; exact AllReadyH.nil; exact AllReadyH.nil)
    all_goals
      go_wp2_with fail
      go_meet
      exact ⟨HM5.out, HB5.out⟩
  case rest =>
    obtain ⟨hM2, hB2⟩ := hcut
    have hX2 := HXB.out wc hB2
    have x2 : wc.cell? ⟨pb, 2, none⟩ = some (.string p.nm) := hX2.cell_eq rfl
    have hl1 : (L ++ [UInt8.ofNat p.k.toNat]).length = L.length + 1 := by simp
    have HT1 := Lib.hid (text20_any w0 wc g T q (L ++ [UInt8.ofNat p.k.toNat]) p.nm false hM2 (.inl HNM.out) hT (by omega))
    have HB2 := Lib.hid hB2
    clear hM2 hB2 hX2 x0 c1 hz1 HONE HO1
    go_wp2_with (first
      | (go_at_call 60; refine HT1.out.mono ?_; rintro e w5 ⟨rfl, hM5, hb5⟩; have x5 : w5.cell? ⟨pb, 5, none⟩ = some (.int .i64 p.off) := (HXB.out w5 (HB2.out.trans hb5)).cell_eq rfl; have h4 := four20_any w0 w5 g T q _ p.off.toNat hM5 (by omega) (by rw [List.length_append, w16_len]; omega); rw [Int.toNat_of_nonneg ho0] at h4; have HF4 := Lib.hid h4; have HB5 := Lib.hid (HB2.out.trans hb5); clear hM5 hb5 h4 x2)
      | (go_at_call 36; refine HF4.out.mono ?_; rintro e w6 ⟨rfl, hM6, hb6⟩; have x6 : w6.cell? ⟨pb, 6, none⟩ = some (.slice A p.cs.length cap) := (HXB.out w6 (HB5.out.trans hb6)).cell_eq rfl; have HT6 := Lib.hid (two20_any w0 w6 g T q _ p.cs.length hM6 (by omega) (by rw [List.length_append, List.length_append, w16_len, w32_len]; omega)); have HB6 := Lib.hid (HB5.out.trans hb6); clear hM6 hb6 x5)
      | (go_at_call 35; refine HT6.out.mono ?_; rintro e w7 ⟨rfl, hM7, hb7⟩; have hX7 := HXB.out w7 (HB6.out.trans hb7); have x7 : w7.cell? ⟨pb, 6, none⟩ = some (.slice A p.cs.length cap) := hX7.cell_eq rfl; have HM7 := Lib.hid hM7; have HX7 := Lib.hid hX7; have HB7 := Lib.hid (HB6.out.trans hb7); clear hM7 hb7 hX7 x6)
      | fail)
    obtain ⟨PRE, hPRE⟩ : ∃ PRE, L ++ (UInt8.ofNat p.k.toNat :: (w16 (numT T p.nm false) ++ w32 p.off.toNat ++ w16 p.cs.length)) = PRE := ⟨_, rfl⟩
    have HPRE := Lib.hid hPRE
    have hPl : PRE.length = L.length + 9 := by rw [← hPRE]; simp [w16_len, w32_len]
    have HMP : Hid (MkW w0 w7 g T q PRE) := by
      unfold Hid
      rw [← hPRE, show L ++ (UInt8.ofNat p.k.toNat :: (w16 (numT T p.nm false) ++ w32 p.off.toNat ++ w16 p.cs.length)) = ((L ++ [UInt8.ofNat p.k.toNat]) ++ w16 (numT T p.nm false)) ++ w32 p.off.toNat ++ w16 p.cs.length by simp]
      exact HM7.out
    clear hPRE HT1 HF4 HT6 HM7 hl1
    have hgpb : g < pb + 1 := by omega
    go_loopw [4, 44] (fun hv i wr => ∃ k : Nat, k ≤ p.cs.length ∧ i = .int .i64 k ∧ MkW w0 wr g T q (PRE ++ headZ T (p.cs.take k)) ∧ OwnN wr (pb + 1) hv (posL (L.length + 9) k) ∧ BM g W1 wr ∧ Blk wr pb 68 #[.int .i64 p.k, .string p.tx, .string p.nm, .string p.ty, .string p.st, .int .i64 p.off, .slice A p.cs.length cap]) (fun _ i _ => p.cs.length - (intOf i).toNat)
    case atStart => exact ⟨0, Nat.zero_le _, rfl, by simpa [headZ] using HMP.out, OwnN.nil _ _, HB7.out, HX7.out⟩
    case round =>
      obtain ⟨k, hk, rfl, hM, hO, hB, hX⟩ := hrel
      obtain ⟨Ah, ch, rfl⟩ := hO.form
      by_cases hlt : k < p.cs.length
      · obtain ⟨c, hc⟩ : ∃ c, p.cs[k]? = some c := ⟨_, List.getElem?_eq_getElem hlt⟩
        obtain ⟨b2, o2, pv, rfl, hb2, e1, e2, hLc⟩ := HAT.out k c hc
        have q1 := (hM.base.cell (p := ⟨b2, o2 + k * 2, none⟩) hb2 (by simp)).trans e1
        have q2 := (hM.base.cell (p := ⟨b2, o2 + k * 2 + 1, none⟩) hb2 (by simp)).trans e2
        obtain ⟨Ap, mp, kp, rfl⟩ := hLc.form
        have hbr := Nat.lt_of_lt_of_le hb2 hM.base.size
        have hin : c.1 ∈ T := HCT.out _ (caseT_key (List.mem_of_getElem? hc))
        have hhl : (headZ T (p.cs.take k)).length = 6 * k := by rw [headZ_len, List.length_take]; omega
        have HTK : Hid (PRE ++ headZ T (p.cs.take (k + 1)) = (PRE ++ headZ T (p.cs.take k)) ++ w16 (numT T c.1 false) ++ w32 0) := by
          unfold Hid
          rw [headZ_take hc]
          simp only [List.append_assoc]
          rfl
        have hll : (PRE ++ headZ T (p.cs.take k)).length = L.length + 9 + 6 * k := by rw [List.length_append, hhl, hPl]
        obtain ⟨L1, hL1⟩ : ∃ L1, PRE ++ headZ T (p.cs.take k) = L1 := ⟨_, rfl⟩
        rw [hL1] at hM HTK hll
        rw [posL_len] at hO ⊢
        have HLL := Lib.hid hll
        have hL1s : L1.length ≤ 1000000 := by omega
        have HPS := Lib.hid (posL_succ (L.length + 9) k)
        have HM := Lib.hid hM
        have HO := Lib.hid hO
        have HB := Lib.hid hB
        have HX := Lib.hid hX
        clear e1 e2 hLc hc hM hO hB hX hL1 hhl
        go_upto_region 9 with fail
        have hY : Blk (wr.alloc (.cells #[.string c.1, .slice Ap mp kp] 70)) wr.heap.size 70 #[.string c.1, .slice Ap mp kp] := Blk.new _ _ _
        have hkx : Keep [] wr (wr.alloc (.cells #[.string c.1, .slice Ap mp kp] 70)) := (Keep.refl _ _).alloc _
        have hM2 := HM.out.nil hkx
        have hO2 := HO.out.keep hkx (by simp)
        have hB2 := HB.out.trans (BM.of hkx)
        have hX2 := HX.out.keep hkx (by simp)
        generalize wr.alloc (.cells #[.string c.1, .slice Ap mp kp] 70) = W2 at *
        obtain ⟨xb, hxb⟩ : ∃ xb, wr.heap.size = xb := ⟨_, rfl⟩
        rw [hxb] at hY ⊢
        have y0 : W2.cell? ⟨xb, 0, none⟩ = some (.string c.1) := hY.cell_eq rfl
        have HT2 := Lib.hid (text20_any w0 W2 g T q L1 c.1 false hM2 (.inl hin) hT (by omega))
        clear hll
        have HO2 := Lib.hid hO2
        have HBM2 := Lib.hid hB2
        have HX2 := Lib.hid hX2
        clear hY hkx hM2 hO2 hB2 hX2 q1 q2 hxb hbr hb2
        go_wp2_with (first
          | (go_at_call 60; refine HT2.out.mono ?_; rintro e w5 ⟨rfl, hM5, hb5⟩; obtain ⟨A5, c5, y1⟩ := hM5.len; obtain ⟨np, hnp⟩ : ∃ np, (L1 ++ w16 (numT T c.1 false)).length = np := ⟨_, rfl⟩; rw [hnp] at y1; have HNP := Lib.hid hnp; clear hnp; have HM5 := Lib.hid hM5; have HO5 := Lib.hid (hb5.ownN HO2.out hgpb); have HB5 := Lib.hid (HBM2.out.trans hb5); have HX5 := Lib.hid (hb5.blk HX2.out hgx (by decide)); have hz5 : pb + 1 ≤ w5.heap.size := Nat.succ_le_of_lt HX5.out.lt; clear hM5 hb5 y0)
          | (at_builtin; refine wpList_append_n rfl _ _ rfl rfl HO5.out np rfl (by rw [posL_len]; omega) hz5 ?_; intro v6 w6 ho6 hk6; have hM6 := HM5.out.num HO5.out hgpb hk6; have h4 : Calls Tryz.prog 36 #[.pointer (some ⟨g, 0, none⟩), .int .i64 0] w6 _ := four20_any w0 w6 g T q _ 0 hM6 (by omega) (by rw [List.length_append, w16_len]; omega); have HF6 := Lib.hid h4; have HO6 := Lib.hid ho6; have HB6 := Lib.hid (HB5.out.put HO5.out (by omega) hk6); have HX6 := Lib.hid (HX5.out.keep hk6 (fun hc => own_blk_ne HO5.out HX5.out (by decide) (Option.mem_toList.1 hc))); clear ho6 hk6 h4 hM6)
          | (go_at_call 36; refine HF6.out.mono ?_; rintro e w7 ⟨rfl, hM7, hb7⟩; have HM7 := Lib.hid hM7; have HB7 := Lib.hid hb7; clear hM7 hb7)
          | fail)
        go_roundw
        case rel => exact ⟨k + 1, by omega, by go_num, by rw [HTK.out]; exact HM7.out, by rw [HPS.out, show L.length + 9 + 6 * k + 2 = np by rw [← HNP.out, List.length_append, w16_len, HLL.out]]; exact HB7.out.ownN HO6.out hgpb, HB6.out.trans HB7.out, HB7.out.blk HX6.out hgx (by decide)⟩
        case measure => simp [intOf]; omega
      · obtain rfl : k = p.cs.length := by omega
        rw [List.take_length] at hM
        rw [posL_len] at hO ⊢
        obtain ⟨n2, n3⟩ := hM.qs
        have HM := Lib.hid hM
        have HO := Lib.hid hO
        have HB := Lib.hid hB
        have HX := Lib.hid hX
        have HL2 : Hid ((PRE ++ headZ T p.cs).length = L.length + 9 + 6 * p.cs.length) := by unfold Hid; rw [List.length_append, headZ_len, hPl]
        generalize wr = w8 at *
        clear hM hO hB hX HMP HX7 HB7 x7 HB2 HB5 HB6 HXB
        go_wp2
        go_cut [8, 9] (fun nv ov W => nv = .string q.1 ∧ ov = .int .i64 q.2 ∧ Keep [] w8 W)
        case first =>
          go_quiet (fail)
          all_goals
            go_wp2_with fail
            go_meet
            exact ⟨rfl, rfl, (Keep.refl _ _).drewN _⟩
        case rest =>
          obtain ⟨rfl, rfl, hkc⟩ := hcut
          have HM9 := Lib.hid (HM.out.nil hkc)
          have HO9 := Lib.hid (HO.out.keep hkc (by simp))
          have HB9 := Lib.hid (HB.out.trans (BM.of hkc))
          have hX9 := HX.out.keep hkc (by simp)
          have HX9 := Lib.hid hX9
          have x0 : wc.cell? ⟨pb, 0, none⟩ = some (.int .i64 p.k) := hX9.cell_eq rfl
          have x2 : wc.cell? ⟨pb, 2, none⟩ = some (.string p.nm) := hX9.cell_eq rfl
          have x5 : wc.cell? ⟨pb, 5, none⟩ = some (.int .i64 p.off) := hX9.cell_eq rfl
          clear hkc hX9 HM HO HB HX n2 n3
          obtain ⟨f1, f2, f3⟩ := HM9.out.frz
          obtain ⟨n2, n3⟩ := HM9.out.qs
          go_at_K
          go_step
          go_step
          go_cut [] (fun W => MkW w0 W g T (inQ q p) (PRE ++ headZ T p.cs) ∧ BM g wc W)
          case first =>
            by_cases h4 : p.k = 4
            · have e4 : (p.k == 4) = true := by simp [h4]
              have hq : inQ q p = q := if_pos h4
              have HQ := Lib.hid hq
              have HM10 := Lib.hid HM9.out
              clear hk456 z1 z2 z3 z4 z5 h4 hq
              go_wp2_with fail
              go_meet
              exact ⟨by rw [HQ.out]; exact HM10.out, BM.refl _ _⟩
            · have e4 : (p.k == 4) = false := by simp [h4]
              have hq : inQ q p = (p.nm, p.off) := if_neg h4
              have HQ := Lib.hid hq
              obtain ⟨m23, b23, m32, b32⟩ := HM9.out.setq p.nm p.off
              have HM23 := Lib.hid m23
              have HB23 := Lib.hid b23
              have HM32 := Lib.hid m32
              have HB32 := Lib.hid b32
              have hpg : pb ∉ [g] := by simp; omega
              clear m23 b23 m32 b32 h4 hq
              go_upto_region 15 with fail
              (refine wp_region_noPanic ?_; refine wp_region_held_drew (S := (fun W => W.cell? ⟨pb, 2, none⟩ = some (.string p.nm) ∧ W.cell? ⟨pb, 5, none⟩ = some (.int .i64 p.off))) (by kernel_rfl) ?_ (fun hHeld => ?_); (· (first | exact ⟨x2, x5⟩ | (refine ⟨(HX9.out.keep (bs := [g]) ?_ hpg).cell_eq rfl, (HX9.out.keep (bs := [g]) ?_ hpg).cell_eq rfl⟩ <;> (repeat (first | exact Keep.refl _ _ | refine Keep.drew ?_ | refine Keep.setCell ?_ (.inl (by simp)) _))) | fail)); refine wpAnyH_take (i := 0) (v := ?_) rfl (by kernel_rfl) (by kernel_rfl) (by kernel_rfl) (fun _ _ _ h => h) (Or.inl ⟨by rfl, ?_⟩) (by assumption) ?_; rotate_left; (· (intro w hSw; go_simp; try with_reducible rfl)); refine wpAnyH_take (i := 1) (v := ?_) rfl (by kernel_rfl) (by kernel_rfl) (by kernel_rfl) (fun _ _ _ h => h) (Or.inl ⟨by rfl, ?_⟩) (by assumption) ?_; rotate_left; (· (intro w hSw; go_simp; try with_reducible rfl)); refine wpAnyH_take (i := 2) (v := ?_) rfl (by kernel_rfl) (by kernel_rfl) (by kernel_rfl) (fun _ _ _ h => h) (Or.inl ⟨by rfl, ?_⟩) (by assumption) ?_; rotate_left; (· (intro w hSw; go_simp; try with_reducible rfl)); refine wpAnyH_take (i := 3) (v := ?_) rfl (by kernel_rfl) (by kernel_rfl) (by kernel_rfl) (fun _ _ _ h => h) (Or.inl ⟨by rfl, ?_⟩) (by assumption) ?_; rotate_left; (· (intro w hSw; go_simp; try with_reducible rfl)); refine wpAnyH_take (i := 4) (v := ?_) rfl (by kernel_rfl) (by kernel_rfl) (by kernel_rfl) (fun _ _ _ h => h) (Or.inl ⟨by rfl, ?_⟩) (by assumption) ?_; rotate_left; (· (intro w hSw; go_simp; try with_reducible rfl)); refine wpAnyH_take (i := 5) (v := ?_) rfl (by kernel_rfl) (by kernel_rfl) (by kernel_rfl) (fun _ _ _ h => h) (Or.inl ⟨by rfl, ?_⟩) (by assumption) ?_; rotate_left; (· (intro w hSw; go_simp; try with_reducible rfl)); refine wpAnyH_take (i := 6) (v := ?_) rfl (by kernel_rfl) (by kernel_rfl) (by kernel_rfl) (fun _ _ _ h => h) (Or.inl ⟨by rfl, ?_⟩) (by assumption) ?_; rotate_left; (· (intro w hSw; go_simp; try with_reducible rfl)); refine wpAnyH_take (i := 7) (v := ?_) rfl (by kernel_rfl) (by kernel_rfl) (by kernel_rfl) (fun _ _ _ h => h) (Or.inl ⟨by rfl, ?_⟩) (by assumption) ?_; rotate_left; (· (intro w hSw; go_simp; try with_reducible rfl)); refine wpAnyH_ready (rs := [8]) (by kernel_rfl) (by simp) ?_; refine AllReadyH.cons rfl (fun K hK => ?_) ?_; go_simp; refine hK.out _ _ ?_ (fun hHeld => ?_); (· (first | exact ⟨x2, x5⟩ | (refine ⟨(HX9.out.keep (bs := [g]) ?_ hpg).cell_eq rfl, (HX9.out.keep (bs := [g]) ?_ hpg).cell_eq rfl⟩ <;> (repeat (first | exact Keep.refl _ _ | refine Keep.drew ?_ | refine Keep.setCell ?_ (.inl (by simp)) _))) | fail)); clear hK K; refine wpAnyH_take (i := 9) (v := ?_) rfl (by kernel_rfl) (by kernel_rfl) (by kernel_rfl) (fun _ _ _ h => h) (Or.inl ⟨by rfl, ?_⟩) (by assumption) ?_; rotate_left; (· (intro w hSw; go_simp; try with_reducible rfl)); refine wpAnyH_take (i := 10) (v := ?_) rfl (by kernel_rfl) (by kernel_rfl) (by kernel_rfl) (fun _ _ _ h => h) (Or.inl ⟨by rfl, ?_⟩) (by assumption) ?_; rotate_left; (· (intro w hSw; go_simp; try with_reducible rfl)); refine wpAnyH_ready (rs := [11]) (by kernel_rfl) (by simp) ?_; refine AllReadyH.cons rfl (fun K hK => ?_) ?_; go_simp; refine hK.out _ _ ?_ (fun hHeld => ?_); (· (first | exact ⟨x2, x5⟩ | (refine ⟨(HX9.out.keep (bs := [g]) ?_ hpg).cell_eq rfl, (HX9.out.keep (bs := [g]) ?_ hpg).cell_eq rfl⟩ <;> (repeat (first | exact Keep.refl _ _ | refine Keep.drew ?_ | refine Keep.setCell ?_ (.inl (by simp)) _))) | fail)); clear hK K; refine wpAnyH_done (by kernel_rfl) ?_ _; refine NoPanic.normal ?_; rotate_left; exact AllReadyH.nil; exact AllReadyH.nil)
              all_goals
                go_wp2_with fail
                go_meet
                rw [HQ.out]
                first
                  | exact ⟨HM23.out.nil (Keep.drew (Keep.refl [] _)), HB23.out.trans (BM.of (Keep.drew (Keep.refl [] _)))⟩
                  | exact ⟨HM32.out.nil (Keep.drew (Keep.refl [] _)), HB32.out.trans (BM.of (Keep.drew (Keep.refl [] _)))⟩
                  | exact ⟨HM23.out, HB23.out⟩
                  | exact ⟨HM32.out, HB32.out⟩
          case rest =>
            obtain ⟨hM10, hB10⟩ := hcut
            have hX10 := hB10.blk HX9.out hgx (by decide)
            have x6 : wc.cell? ⟨pb, 6, none⟩ = some (.slice A p.cs.length cap) := hX10.cell_eq rfl
            have HZ10 : Hid (W1.heap.size ≤ wc.heap.size) := by have := hX10.lt; unfold Hid; omega
            have HO10 := Lib.hid (hB10.ownN HO9.out hgpb)
            have HB10 := Lib.hid (HB9.out.trans hB10)
            have HM10 := Lib.hid hM10
            have HQ2 : Hid (decide (p.k ≠ 4) = true → (inQ q p).1 ∈ T ∧ 0 ≤ (inQ q p).2 ∧ (inQ q p).2 ≤ 999999999) := fun hd => by
              have h4 : p.k ≠ 4 := of_decide_eq_true hd
              have hq : inQ q p = (p.nm, p.off) := if_neg h4
              rw [hq]
              exact ⟨HNM.out, ho0, ho1⟩
            have hoh := Lib.hid (fun x hx => (HO10.out.lt x hx).2)
            generalize wc = w10 at *
            clear hM10 hB10 hX10 HM9 HO9 HB9 HX9 x0 x2 x5 f1 f2 f3 n2 n3 HX HM1 HCZ z1 z2 z3 z4 z5 hk456
            obtain ⟨a0, ha0⟩ : ∃ a0, L.length + 9 + 6 * p.cs.length = a0 := ⟨_, rfl⟩
            have HA0 := Lib.hid ha0
            have hcsl : p.cs.length ≤ 1000000 := by omega
            have HPL := Lib.hid hPl
            obtain ⟨E, hE⟩ : ∃ E : Nat → List PT → List UInt8, codF T n (inQ q p) = E := ⟨_, rfl⟩
            have HE := Lib.hid hE
            have hEl : Hid (∀ a m, (E a m).length = lenF n m) := fun a m => by rw [← HE.out, codF_len]
            have hlnE : a0 + lenC (lenF n) p.cs ≤ 1000000 := by omega
            obtain ⟨q2, hq2⟩ : ∃ q2, inQ q p = q2 := ⟨_, rfl⟩
            rw [hq2] at HM10 HQ2 HE HCQ
            have hpll := Lib.hid (posL_len (L.length + 9) p.cs.length)
            clear hE ha0 hPl hln hq2
            go_wp2
            go_loopw [5, 87] (fun ev i wr => ∃ k : Nat, k ≤ p.cs.length ∧ i = .int .i64 k ∧ MkW w0 wr g T q2 (PRE ++ headC T (lenF n) a0 (p.cs.take k) ++ headZ T (p.cs.drop k) ++ bodyC E (lenF n) 0 a0 (p.cs.take k)) ∧ OwnN wr (pb + 1) (.slice Ah p.cs.length ch) (posL (L.length + 9) p.cs.length) ∧ OwnN wr w10.heap.size ev (endC (lenF n) a0 (p.cs.take k)) ∧ BM g W1 wr ∧ w10.heap.size ≤ wr.heap.size) (fun _ i _ => p.cs.length - (intOf i).toNat)
            case atStart => exact ⟨0, Nat.zero_le _, rfl, by simpa [headC, bodyC] using HM10.out, HO10.out, OwnN.nil _ _, HB10.out, Nat.le_refl _⟩
            case round =>
              obtain ⟨k, hk, rfl, hM, hO, hE9, hB, hz9⟩ := hrel
              by_cases hlt : k < p.cs.length
              · obtain ⟨c, hc⟩ : ∃ c, p.cs[k]? = some c := ⟨_, List.getElem?_eq_getElem hlt⟩
                obtain ⟨b2, o2, pv, rfl, hb2, e1, e2, hLc⟩ := HAT.out k c hc
                have q1 := (hM.base.cell (p := ⟨b2, o2 + k * 2, none⟩) hb2 (by simp)).trans e1
                have q3 := (hM.base.cell (p := ⟨b2, o2 + k * 2 + 1, none⟩) hb2 (by simp)).trans e2
                obtain ⟨Ap, mp, kp, rfl⟩ := hLc.form
                have hbr := Nat.lt_of_lt_of_le hb2 hM.base.size
                have hrc : rightF n c.2 (decide (p.k ≠ 4)) = true := caseR_mem HCR.out (List.mem_of_getElem? hc)
                have htc : ∀ s ∈ textF n c.2, s ∈ T := fun s hs => HCT.out s (caseT_sub (List.mem_of_getElem? hc) hs)
                have hct1 := lenC_take (L := lenF n) hc
                have hct2 := lenC_take_le (lenF n) p.cs (k + 1)
                have hll : (PRE ++ headC T (lenF n) a0 (p.cs.take k) ++ headZ T (p.cs.drop k) ++ bodyC E (lenF n) 0 a0 (p.cs.take k)).length = a0 + lenC (lenF n) (p.cs.take k) := by
                  rw [List.length_append, List.length_append, List.length_append, headC_len, headZ_len, bodyC_len hEl.out, List.length_take, List.length_drop, HPL.out]
                  have := HA0.out
                  omega
                have HPUT := Lib.hid (head_put (P := T) (L := lenF n) (a := a0) (pre := PRE) (T := bodyC E (lenF n) 0 a0 (p.cs.take k)) hc)
                have HBT := Lib.hid (bodyC_take (E := E) (L := lenF n) (z := 0) (a := a0) hc)
                have HET := Lib.hid (endC_take (L := lenF n) (a := a0) hc)
                obtain ⟨zk, hzk⟩ : ∃ zk, a0 + lenC (lenF n) (p.cs.take k) = zk := ⟨_, rfl⟩
                rw [hzk] at HPUT HBT HET hll
                obtain ⟨Lk, hLk⟩ : ∃ Lk, PRE ++ headC T (lenF n) a0 (p.cs.take k) ++ headZ T (p.cs.drop k) ++ bodyC E (lenF n) 0 a0 (p.cs.take k) = Lk := ⟨_, rfl⟩
                rw [hLk] at hM HPUT hll
                obtain ⟨pk, hpk⟩ : ∃ pk, PRE.length + 6 * k + 2 = pk := ⟨_, rfl⟩
                rw [hpk] at HPUT
                have hpk2 : L.length + 9 + 6 * k + 2 = pk := by rw [← hpk, HPL.out]
                have hpos := posL_at (L.length + 9) p.cs.length k hlt
                rw [hpk2] at hpos
                have hpz : pk + 4 ≤ zk := by have := HA0.out; omega
                have hzl : zk + lenF n c.2 + 5 ≤ 1000000 := by omega
                have HLL := Lib.hid hll
                have HM := Lib.hid hM
                have HO := Lib.hid hO
                have HE9 := Lib.hid hE9
                have HB := Lib.hid hB
                have HLC := Lib.hid hLc
                have HPOS := Lib.hid hpos
                clear e1 e2 hLc hc hM hO hE9 hB hLk hct1 hct2 hzk hpk hpk2 hpos hll
                go_upto_region 19 with fail
                have hY : Blk (wr.alloc (.cells #[.string c.1, .slice Ap mp kp] 70)) wr.heap.size 70 #[.string c.1, .slice Ap mp kp] := Blk.new _ _ _
                have hkx : Keep [] wr (wr.alloc (.cells #[.string c.1, .slice Ap mp kp] 70)) := (Keep.refl _ _).alloc _
                have hM2 := HM.out.nil hkx
                have hO2 := HO.out.keep hkx (by simp)
                have hE2 := HE9.out.keep hkx (by simp)
                have hB2 := HB.out.trans (BM.of hkx)
                have hz2 := hkx.size
                generalize wr.alloc (.cells #[.string c.1, .slice Ap mp kp] 70) = W2 at *
                obtain ⟨xb, hxb⟩ : ∃ xb, wr.heap.size = xb := ⟨_, rfl⟩
                rw [hxb] at hY hz9 ⊢
                have hgxb : xb ≠ g := by have := HM.out.lt.1; omega
                have hkd : Keep [] W2 W2.drew := Keep.drew (Keep.refl [] W2)
                obtain ⟨hb, hcp, hsl, hcell⟩ := hO2.at HPOS.out
                rw [hpll.out] at hsl
                injection hsl with e1 e2 e3
                subst e1 e3
                obtain ⟨tvm, Am, cm, hml, hbm⟩ := hM2.len2
                rw [HLL.out] at hml hbm
                have HBMK := Lib.hid (hbm.keep hkd (by simp))
                have HS := Lib.hid (set20_any w0 W2.drew g T q2 Lk pk zk (hM2.nil hkd) (by rw [HLL.out]; exact hpz) (by omega) (by rw [HLL.out]; omega))
                have HY := Lib.hid hY
                have HO2 := Lib.hid hO2
                have HE2 := Lib.hid hE2
                have HB2 := Lib.hid hB2
                clear hM2 hO2 hE2 hB2 hkx q1 q3 hxb hbr hb2 hY
                have HKD := Lib.hid (BM.of (g := g) hkd)
                have hcd : W2.drew.cell? ⟨hb, k, none⟩ = some (.int .i64 (pk : Int)) := hcell
                go_region_held3 (fun W => W.cell? ⟨hb, k, none⟩ = some (.int .i64 (pk : Int)) ∧ W.cell? ⟨g, 1, none⟩ = some (.slice Am zk cm)) (first | exact ⟨hcell, hml⟩ | exact ⟨hcd, hml⟩ | exact ⟨u1, u2⟩ | fail)
                  (first
                    | (go_at_call 89; refine HS.out.mono ?_; rintro e w5 ⟨rfl, hM5, hb5, hg5⟩; have hBB := HKD.out.trans hb5; have hO5 := hBB.ownN HO2.out hgpb; have hE5 := hBB.ownN HE2.out HM10.out.lt.1; have u1 := hO5.at2 HPOS.out; have hG5 := hg5 _ _ HBMK.out; have u2 : w5.cell? ⟨g, 1, none⟩ = some (.slice Am zk cm) := hG5.cell_eq rfl; have hY5 := hBB.blk HY.out hgxb (by decide); have HM5 := Lib.hid hM5; have HO5 := Lib.hid hO5; have HE5 := Lib.hid hE5; have HY5 := Lib.hid hY5; have HB5 := Lib.hid (HB2.out.trans hBB); have v1 : w5.cell? ⟨xb, 1, none⟩ = some (.slice Ap mp kp) := hY5.cell_eq rfl; clear hM5 hb5 hg5 hBB hO5 hE5 hG5 hY5)
                    | fail)
                rw [HPUT.out] at HM5
                obtain ⟨L5, hL5⟩ : ∃ L5, PRE ++ headC T (lenF n) a0 (p.cs.take (k + 1)) ++ headZ T (p.cs.drop (k + 1)) ++ bodyC E (lenF n) 0 a0 (p.cs.take k) = L5 := ⟨_, rfl⟩
                have HL5 := Lib.hid hL5
                rw [hL5] at HM5
                have hl5 : L5.length = zk := by
                  rw [← hL5, ← HPUT.out, setL_len, HLL.out]
                have HLN5 := Lib.hid hl5
                have HPA := Lib.hid (HIH.out c.2 _ S _ w0 w5 g T q2 L5 hrc HQ2.out HLC.out HM5.out htc hT (by rw [hl5]; omega))
                rw [HE.out, hl5] at HPA
                have hlE : (E zk c.2).length = lenF n c.2 := hEl.out _ _
                have HLE := Lib.hid hlE
                clear hL5 hl5 u1 u2 hcell hcd hml hbm HS HBMK hrc htc hlE
                go_upto_region 22 with (first
                  | (go_at_call 34; refine HPA.out.mono ?_; rintro e w6 ⟨rfl, hM6, hb6⟩; obtain ⟨A6, m6, c6, y1, hO6, hz6, hone6⟩ := hM6.one; have HONE6 := Lib.hid hone6; have HO6 := Lib.hid hO6; have HB6 := Lib.hid hb6; clear hM6 hb6 hO6 hone6)
                  | (at_builtin; refine wpList_append_b rfl _ _ rfl rfl HO6.out 7 7 rfl rfl (by rw [List.length_append, HLN5.out, HLE.out]; omega) hz6 ?_; intro v7 w7 ho7 hk7 hl7; obtain ⟨hM7, hb7, d7, z7⟩ := HONE6.out 7 w7 v7 ho7 hk7; obtain ⟨A7, m7, c7, rfl⟩ := ho7.formM; have HM7 := Lib.hid hM7; have HB7 := Lib.hid hb7; clear ho7 hk7 hl7 hM7 hb7)
                  | fail)
                generalize w7.setCell ⟨g, 1, none⟩ (.slice A7 m7 c7) = W7 at *
                have hBX := HB6.out.trans HB7.out
                have hO7 := hBX.ownN HO5.out hgpb
                have hE7 := hBX.ownN HE5.out HM10.out.lt.1
                obtain ⟨A8, c8, y8⟩ := HM7.out.len
                obtain ⟨np, hnp⟩ : ∃ np, (L5 ++ E zk c.2 ++ [7]).length = np := ⟨_, rfl⟩
                rw [hnp] at y8
                have hnp2 : zk + lenF n c.2 + 1 = np := by rw [← hnp, List.length_append, List.length_append, HLN5.out, HLE.out]; rfl
                have HNP := Lib.hid hnp2
                have HNPL := Lib.hid hnp
                obtain ⟨AE, cE, rfl⟩ := hE7.form
                have hel : (endC (lenF n) a0 (p.cs.take k)).length = k := by rw [endC_len, List.length_take]; omega
                rw [hel] at hE7 ⊢
                have HEL := Lib.hid hel
                have HO7 := Lib.hid hO7
                have HE7 := Lib.hid hE7
                have HBX := Lib.hid (HB5.out.trans hBX)
                have hz7 : w10.heap.size ≤ W7.heap.size := by have := (Array.getElem?_eq_some_iff.1 (hBX xb _ HY5.out hgxb (fun cs fr e => by injection e with _ e _; cases e))).1; omega
                clear y1 d7 z7 HO6 HONE6 hO7 hE7 hnp hnp2 hel hBX v1 hz6
                go_wp2_with (first
                  | (at_builtin; refine wpList_append_n rfl _ _ rfl rfl HE7.out np rfl (by rw [HEL.out]; omega) hz7 ?_; intro v9 w9 ho9 hk9; have hM9 := HM7.out.num HE7.out HM10.out.lt.1 hk9; have h4 : Calls Tryz.prog 36 #[.pointer (some ⟨g, 0, none⟩), .int .i64 0] w9 _ := four20_any w0 w9 g T q2 _ 0 hM9 (by omega) (by rw [List.length_append, List.length_append, HLN5.out, HLE.out]; simp; omega); have HF9 := Lib.hid h4; have HE9b := Lib.hid ho9; have HB9 := Lib.hid (HBX.out.put HE7.out HZ10.out hk9); have HO9 := Lib.hid (HO7.out.keep hk9 (fun x hx hc => by have h1 := hoh.out x hx; have h2 := (HE7.out.lt x hc).1; omega)); have hz9b := hk9.size; clear ho9 hk9 h4 hM9)
                  | (go_at_call 36; refine HF9.out.mono ?_; rintro e wb ⟨rfl, hMb, hbb⟩; have HMb := Lib.hid hMb; have HBb := Lib.hid hbb; clear hMb hbb)
                  | fail)
                go_roundw
                case rel => exact ⟨k + 1, by omega, by go_num, by rw [HBT.out, show PRE ++ headC T (lenF n) a0 (p.cs.take (k + 1)) ++ headZ T (p.cs.drop (k + 1)) ++ (bodyC E (lenF n) 0 a0 (p.cs.take k) ++ (E zk c.2 ++ ([7] ++ w32 0))) = (L5 ++ E zk c.2 ++ [7]) ++ w32 0 by rw [← HL5.out]; simp only [List.append_assoc]]; exact HMb.out, HBb.out.ownN HO9.out hgpb, by rw [HET.out, HNP.out]; exact HBb.out.ownN HE9b.out HM10.out.lt.1, HB9.out.trans HBb.out, Nat.le_of_lt ((HBb.out.ownN HE9b.out HM10.out.lt.1).size (by simp))⟩
                case measure => simp [intOf]; omega
              · obtain rfl : k = p.cs.length := by omega
                rw [List.take_length, List.drop_length, show headZ T [] = [] from rfl, List.append_nil] at hM
                rw [List.take_length] at hE9
                obtain ⟨AE, cE, rfl⟩ := hE9.form
                rw [endC_len] at hE9 ⊢
                obtain ⟨PR2, hPR2⟩ : ∃ PR2, PRE ++ headC T (lenF n) a0 p.cs = PR2 := ⟨_, rfl⟩
                have hp2 : PR2.length = a0 := by
                  rw [← hPR2, List.length_append, headC_len, HPL.out]
                  have := HA0.out
                  omega
                rw [hPR2] at hM
                have HPR2 := Lib.hid hPR2
                have HP2 := Lib.hid hp2
                obtain ⟨z, hz⟩ : ∃ z, a0 + lenC (lenF n) p.cs = z := ⟨_, rfl⟩
                have HZ := Lib.hid hz
                have HM := Lib.hid hM
                have HE9 := Lib.hid hE9
                have HB := Lib.hid hB
                clear hM hO hE9 hB hPR2 hp2 hz x6
                go_wp2
                go_loopw [129] (fun i wr => ∃ k : Nat, k ≤ p.cs.length ∧ i = .int .i64 k ∧ MkW w0 wr g T q2 (PR2 ++ bodyC E (lenF n) z a0 (p.cs.take k) ++ bodyC E (lenF n) 0 (a0 + lenC (lenF n) (p.cs.take k)) (p.cs.drop k)) ∧ OwnN wr w10.heap.size (.slice AE p.cs.length cE) (endC (lenF n) a0 p.cs) ∧ BM g W1 wr) (fun i _ => p.cs.length - (intOf i).toNat)
                case atStart => exact ⟨0, Nat.zero_le _, rfl, by simpa [bodyC, lenC] using HM.out, HE9.out, HB.out⟩
                case round =>
                  obtain ⟨k, hk, rfl, hM, hE9, hB⟩ := hrel
                  by_cases hlt : k < p.cs.length
                  · obtain ⟨c, hc⟩ : ∃ c, p.cs[k]? = some c := ⟨_, List.getElem?_eq_getElem hlt⟩
                    have hct1 := lenC_take (L := lenF n) hc
                    have hct2 := lenC_take_le (lenF n) p.cs (k + 1)
                    have hll : (PR2 ++ bodyC E (lenF n) z a0 (p.cs.take k) ++ bodyC E (lenF n) 0 (a0 + lenC (lenF n) (p.cs.take k)) (p.cs.drop k)).length = z := by
                      rw [List.length_append, List.length_append, bodyC_len hEl.out, bodyC_len hEl.out, HP2.out, ← HZ.out, Nat.add_assoc, lenC_split]
                    have HPUT := Lib.hid (end_put (z := z) hEl.out HP2.out hc)
                    have hpos := endC_at (L := lenF n) (a := a0) hc
                    obtain ⟨ek, hek⟩ : ∃ ek, a0 + lenC (lenF n) (p.cs.take k) + lenF n c.2 + 1 = ek := ⟨_, rfl⟩
                    rw [hek] at HPUT hpos
                    obtain ⟨Lk, hLk⟩ : ∃ Lk, PR2 ++ bodyC E (lenF n) z a0 (p.cs.take k) ++ bodyC E (lenF n) 0 (a0 + lenC (lenF n) (p.cs.take k)) (p.cs.drop k) = Lk := ⟨_, rfl⟩
                    rw [hLk] at hM HPUT hll
                    have hez : ek + 4 ≤ z := by have := HZ.out; omega
                    have hzz : z ≤ 1000000 := by have := HZ.out; omega
                    obtain ⟨eb, ce, hsl, hcell⟩ := hE9.at hpos
                    rw [endC_len] at hsl
                    injection hsl with e1 e2 e3
                    subst e1 e3
                    obtain ⟨Am, cm, hml⟩ := hM.len
                    rw [hll] at hml
                    have HS := Lib.hid (set20_any w0 wr g T q2 Lk ek z hM (by rw [hll]; exact hez) (by omega) (by rw [hll]; omega))
                    have HE9 := Lib.hid hE9
                    have HB := Lib.hid hB
                    clear hM hE9 hB hll hLk hek hpos hct1 hct2 hc
                    go_wp2_with (first
                      | (go_at_call 89; refine HS.out.mono ?_; rintro e w5 ⟨rfl, hM5, hb5, -⟩; rw [HPUT.out] at hM5; have HM5 := Lib.hid hM5; have HB5 := Lib.hid hb5; clear hM5 hb5)
                      | fail)
                    go_roundw
                    case rel => exact ⟨k + 1, by omega, by go_num, HM5.out, HB5.out.ownN HE9.out HM10.out.lt.1, HB.out.trans HB5.out⟩
                    case measure => simp [intOf]; omega
                  · obtain rfl : k = p.cs.length := by omega
                    rw [List.take_length, List.drop_length, show bodyC E (lenF n) 0 (a0 + lenC (lenF n) p.cs) [] = [] from rfl, List.append_nil] at hM
                    obtain ⟨f1, f2, f3⟩ := hM.frz
                    obtain ⟨n2, n3⟩ := hM.qs
                    obtain ⟨m23, b23, -, -⟩ := hM.setq q.1 q.2
                    have HMF := Lib.hid m23
                    have HBF := Lib.hid (hB.trans b23)
                    clear hM hE9 hB m23 b23
                    go_wp2
                    go_end0
                    have hfin : L ++ codP T (codF T n) (lenF n) q L.length p = PR2 ++ bodyC E (lenF n) z a0 p.cs := by
                      rw [HCQ.out, ← HPR2.out, ← HPRE.out, HE.out, HA0.out, show L.length + lenP (lenF n) p = z by rw [HLP.out, ← HZ.out]; have := HA0.out; omega]
                      simp only [List.append_assoc, List.cons_append]
                    exact ⟨rfl, by rw [hfin]; exact HMF.out, HB1.out.trans HBF.out⟩
end Go.Proofs.YtmfoiceofhcicaaGreatDoor

namespace Go.Proofs.YtmfoiceofhcicaaGreatDoor
open Go.RowKit Go.IntWalk

set_option maxRecDepth 100000 in
set_option maxHeartbeats 4000000 in
theorem two20_fr (w : World) (g B : Nat) (tv v : Value) (q : InP) (l : List UInt8) (n : Nat) (hB : Blk w g 82 #[tv, v, .string q.1, .int .i64 q.2]) (hO : OwnU w B v l) (hgB : g < B) (hBw : B ≤ w.heap.size) (hn : n < 4294967296) (hl : l.length ≤ 1000000000) :
    Calls Tryz.prog 35 #[.pointer (some ⟨g, 0, none⟩), .int .i64 n] w fun e w' => e = .returned (.tuple #[]) ∧ ∃ v', Blk w' g 82 #[tv, v', .string q.1, .int .i64 q.2] ∧ OwnU w' B v' (l ++ w16 n) ∧ Keep (g :: v.ownBlock.toList) w w' := by
  obtain ⟨A, cap, rfl⟩ := hO.form
  have HL : Hid (∀ W, Calls Tryz.prog 62 #[.int .u32 (n : Int), .int .i64 2] W fun e w' => ∃ b c, e = .returned (.slice (some ⟨b, 0, none⟩) 2 c) ∧ OwnU w' W.heap.size (.slice (some ⟨b, 0, none⟩) 2 c) (w16 n) ∧ Keep [] W w') := fun W => low_any W n 2 (by omega) (by omega)
  have c1 : w.cell? ⟨g, 1, none⟩ = some (.slice A l.length cap) := hB.cell_eq rfl
  have f1 : w.frozen? ⟨g, 1, none⟩ = false := hB.frozen 1
  have hgl := hB.lt
  have hw : IntKind.u32.wrap (n : Int) = (n : Int) := by rw [IntKind.wrap_u32]; omega
  have HB := Lib.hid hB
  have HO := Lib.hid hO
  clear hB hO
  go_enter Tryz.func35, Tryz.ntmps35
  go_upto_region 0 with fail
  (refine wp_region_noPanic ?_; refine wp_region_held_drew (S := (fun _ => True)) (by kernel_rfl) ?_ (fun hHeld => ?_); (· (exact trivial)); refine wpAnyH_take (i := 0) (v := ?_) rfl (by kernel_rfl) (by kernel_rfl) (by kernel_rfl) (fun _ _ _ h => h) (Or.inl ⟨by rfl, ?_⟩) (by assumption) ?_; rotate_left; (· (intro w hSw; go_simp; try with_reducible rfl)); refine wpAnyH_take (i := 1) (v := ?_) rfl (by kernel_rfl) (by kernel_rfl) (by kernel_rfl) (fun _ _ _ h => h) (Or.inl ⟨by rfl, ?_⟩) (by assumption) ?_; rotate_left; (· (intro w hSw; go_simp; try with_reducible rfl)); refine wpAnyH_take (i := 2) (v := ?_) rfl (by kernel_rfl) (by kernel_rfl) (by kernel_rfl) (fun _ _ _ h => h) (Or.inl ⟨by rfl, ?_⟩) (by assumption) ?_; rotate_left; (· (intro w hSw; go_simp; try with_reducible rfl)); refine wpAnyH_take (i := 3) (v := ?_) rfl (by kernel_rfl) (by kernel_rfl) (by kernel_rfl) (fun _ _ _ h => h) (Or.inl ⟨by rfl, ?_⟩) (by assumption) ?_; rotate_left; (· (intro w hSw; go_simp; try with_reducible rfl)); refine wpAnyH_take (i := 5) (v := ?_) rfl (by kernel_rfl) (by kernel_rfl) (by kernel_rfl) (fun _ _ _ h => h) (Or.inl ⟨by rfl, ?_⟩) (by assumption) ?_; rotate_left; (· (intro w hSw; go_simp; try with_reducible rfl)); refine wpAnyH_take (i := 6) (v := ?_) rfl (by kernel_rfl) (by kernel_rfl) (by kernel_rfl) (fun _ _ _ h => h) (Or.inl ⟨by rfl, ?_⟩) (by assumption) ?_; rotate_left; (· (intro w hSw; go_simp; try with_reducible rfl)); refine wpAnyH_ready (rs := [4, 7]) (by kernel_rfl) (by simp) ?_; refine AllReadyH.cons rfl (fun K hK => ?_) ?_; go_simp; refine hK.out _ _ ?_ (fun hHeld => ?_); (· (exact trivial)); clear hK K; refine wpAnyH_ready (rs := [7]) (by kernel_rfl) (by simp) ?_; refine AllReadyH.cons rfl (fun K hK => ?_) ?_; go_simp; (first | (go_at_call 62; refine (HL.out _).mono ?_; rintro e w5 ⟨b5, k5, rfl, hO5, hk5⟩; have hq5 : Keep [] w w5 := ((Keep.refl [] w).drew).trans hk5 (by simp); have hB5 := HB.out.keep hq5 (by simp); have hO15 := HO.out.keep hq5 (by simp); have d1 : w5.cell? ⟨g, 1, none⟩ = some (.slice A l.length cap) := hB5.cell_eq rfl; have HB5 := Lib.hid hB5; have HO15 := Lib.hid hO15; have HO5 := Lib.hid hO5; have HQ5 := Lib.hid hq5; clear hq5 hB5 hO15 hO5 hk5) | fail); refine hK.out _ _ ?_ (fun hHeld => ?_); (· (exact trivial)); clear hK K; refine wpAnyH_ready (rs := [8]) (by kernel_rfl) (by simp) ?_; refine AllReadyH.cons rfl (fun K hK => ?_) ?_; (first | (obtain ⟨bc, oc, hbc, -, -, -, hbl5, hcl5⟩ := HO5.out.reads.cells (by rw [w16_len]; omega); injection hbc with hbc; injection hbc with hbc1 hbc2; subst hbc1 hbc2; refine step_append_us (by rfl) _ _ (by rfl) (by rfl) HO15.out (w16 n) ⟨b5, 0, none⟩ k5 2 rfl (by rfl) hcl5 (by rw [w16_len]; omega) (by have := HQ5.out.size; omega) ?_; intro A6 cap6 w6 ho6 hk6; have hB6 := HB5.out.keep hk6 (fun hc => by have := (HO15.out.lt g hc).1; omega); have z6 : w6.frozen? ⟨g, 1, none⟩ = false := hB6.frozen 1; have y6 : w6.cell? ⟨g, 1, none⟩ = some (.slice A l.length cap) := hB6.cell_eq rfl; have HB6 := Lib.hid hB6; have HO6 := Lib.hid ho6; have HK6 := Lib.hid hk6; clear hB6 ho6 hk6) | fail); refine hK.out _ _ ?_ (fun hHeld => ?_); (· (exact trivial)); clear hK K; refine wpAnyH_take (i := 9) (v := ?_) rfl (by kernel_rfl) (by kernel_rfl) (by kernel_rfl) (fun _ _ _ h => h) (Or.inl ⟨by rfl, ?_⟩) (by assumption) ?_; rotate_left; (· (intro w hSw; go_simp; try with_reducible rfl)); refine wpAnyH_take (i := 10) (v := ?_) rfl (by kernel_rfl) (by kernel_rfl) (by kernel_rfl) (fun _ _ _ h => h) (Or.inl ⟨by rfl, ?_⟩) (by assumption) ?_; rotate_left; (· (intro w hSw; go_simp; try with_reducible rfl)); refine wpAnyH_ready (rs := [11]) (by kernel_rfl) (by simp) ?_; refine AllReadyH.cons rfl (fun K hK => ?_) ?_; go_simp; refine hK.out _ _ ?_ (fun hHeld => ?_); (· (exact trivial)); clear hK K; refine wpAnyH_done (by kernel_rfl) ?_ _; refine NoPanic.normal ?_; rotate_left; exact AllReadyH.nil; exact AllReadyH.nil; exact AllReadyH.nil; refine AllReadyH.cons rfl (fun K hK => ?_) ?_; go_simp; (first | (go_at_call 62; refine (HL.out _).mono ?_; rintro e w5 ⟨b5, k5, rfl, hO5, hk5⟩; have hq5 : Keep [] w w5 := ((Keep.refl [] w).drew).trans hk5 (by simp); have hB5 := HB.out.keep hq5 (by simp); have hO15 := HO.out.keep hq5 (by simp); have d1 : w5.cell? ⟨g, 1, none⟩ = some (.slice A l.length cap) := hB5.cell_eq rfl; have HB5 := Lib.hid hB5; have HO15 := Lib.hid hO15; have HO5 := Lib.hid hO5; have HQ5 := Lib.hid hq5; clear hq5 hB5 hO15 hO5 hk5) | fail); refine hK.out _ _ ?_ (fun hHeld => ?_); (· (exact trivial)); clear hK K; refine wpAnyH_ready (rs := [4]) (by kernel_rfl) (by simp) ?_; refine AllReadyH.cons rfl (fun K hK => ?_) ?_; go_simp; refine hK.out _ _ ?_ (fun hHeld => ?_); (· (exact trivial)); clear hK K; refine wpAnyH_ready (rs := [8]) (by kernel_rfl) (by simp) ?_; refine AllReadyH.cons rfl (fun K hK => ?_) ?_; (first | (obtain ⟨bc, oc, hbc, -, -, -, hbl5, hcl5⟩ := HO5.out.reads.cells (by rw [w16_len]; omega); injection hbc with hbc; injection hbc with hbc1 hbc2; subst hbc1 hbc2; refine step_append_us (by rfl) _ _ (by rfl) (by rfl) HO15.out (w16 n) ⟨b5, 0, none⟩ k5 2 rfl (by rfl) hcl5 (by rw [w16_len]; omega) (by have := HQ5.out.size; omega) ?_; intro A6 cap6 w6 ho6 hk6; have hB6 := HB5.out.keep hk6 (fun hc => by have := (HO15.out.lt g hc).1; omega); have z6 : w6.frozen? ⟨g, 1, none⟩ = false := hB6.frozen 1; have y6 : w6.cell? ⟨g, 1, none⟩ = some (.slice A l.length cap) := hB6.cell_eq rfl; have HB6 := Lib.hid hB6; have HO6 := Lib.hid ho6; have HK6 := Lib.hid hk6; clear hB6 ho6 hk6) | fail); refine hK.out _ _ ?_ (fun hHeld => ?_); (· (exact trivial)); clear hK K; refine wpAnyH_take (i := 9) (v := ?_) rfl (by kernel_rfl) (by kernel_rfl) (by kernel_rfl) (fun _ _ _ h => h) (Or.inl ⟨by rfl, ?_⟩) (by assumption) ?_; rotate_left; (· (intro w hSw; go_simp; try with_reducible rfl)); refine wpAnyH_take (i := 10) (v := ?_) rfl (by kernel_rfl) (by kernel_rfl) (by kernel_rfl) (fun _ _ _ h => h) (Or.inl ⟨by rfl, ?_⟩) (by assumption) ?_; rotate_left; (· (intro w hSw; go_simp; try with_reducible rfl)); refine wpAnyH_ready (rs := [11]) (by kernel_rfl) (by simp) ?_; refine AllReadyH.cons rfl (fun K hK => ?_) ?_; go_simp; refine hK.out _ _ ?_ (fun hHeld => ?_); (· (exact trivial)); clear hK K; refine wpAnyH_done (by kernel_rfl) ?_ _; refine NoPanic.normal ?_; rotate_left; exact AllReadyH.nil; exact AllReadyH.nil; exact AllReadyH.nil; exact AllReadyH.nil)
  all_goals
    go_end0
    have hks : Keep [g] w6 (w6.setCell ⟨g, 1, none⟩ (.slice A6 (l.length + 2) cap6)) := (Keep.refl _ _).setCell (.inl (by simp)) _
    refine ⟨rfl, _, by simpa using Blk.set_ HB6.out 1 (.slice A6 (l.length + 2) cap6), HO6.out.keep hks (fun x hx hc => by have := (HO6.out.lt x hx).1; simp at hc; omega), ?_⟩
    exact ((HQ5.out.mono (fun x hx => by cases hx)).trans HK6.out (fun x hx => .inl (List.mem_cons_of_mem _ hx))).trans hks (fun x hx => .inl (by simp at hx; simp [hx]))
set_option maxRecDepth 100000 in
set_option maxHeartbeats 4000000 in
theorem four20_fr (w : World) (g B : Nat) (tv v : Value) (q : InP) (l : List UInt8) (n : Nat) (hB : Blk w g 82 #[tv, v, .string q.1, .int .i64 q.2]) (hO : OwnU w B v l) (hgB : g < B) (hBw : B ≤ w.heap.size) (hn : n < 4294967296) (hl : l.length ≤ 1000000000) :
    Calls Tryz.prog 36 #[.pointer (some ⟨g, 0, none⟩), .int .i64 n] w fun e w' => e = .returned (.tuple #[]) ∧ ∃ v', Blk w' g 82 #[tv, v', .string q.1, .int .i64 q.2] ∧ OwnU w' B v' (l ++ w32 n) ∧ Keep (g :: v.ownBlock.toList) w w' := by
  obtain ⟨A, cap, rfl⟩ := hO.form
  have HL : Hid (∀ W, Calls Tryz.prog 62 #[.int .u32 (n : Int), .int .i64 4] W fun e w' => ∃ b c, e = .returned (.slice (some ⟨b, 0, none⟩) 4 c) ∧ OwnU w' W.heap.size (.slice (some ⟨b, 0, none⟩) 4 c) (w32 n) ∧ Keep [] W w') := fun W => (by have h := low_any W n 4 (by omega) (by omega); rw [leB_four] at h; exact h)
  have c1 : w.cell? ⟨g, 1, none⟩ = some (.slice A l.length cap) := hB.cell_eq rfl
  have f1 : w.frozen? ⟨g, 1, none⟩ = false := hB.frozen 1
  have hgl := hB.lt
  have hw : IntKind.u32.wrap (n : Int) = (n : Int) := by rw [IntKind.wrap_u32]; omega
  have HB := Lib.hid hB
  have HO := Lib.hid hO
  clear hB hO
  go_enter Tryz.func36, Tryz.ntmps36
  go_upto_region 0 with fail
  (refine wp_region_noPanic ?_; refine wp_region_held_drew (S := (fun _ => True)) (by kernel_rfl) ?_ (fun hHeld => ?_); (· (exact trivial)); refine wpAnyH_take (i := 0) (v := ?_) rfl (by kernel_rfl) (by kernel_rfl) (by kernel_rfl) (fun _ _ _ h => h) (Or.inl ⟨by rfl, ?_⟩) (by assumption) ?_; rotate_left; (· (intro w hSw; go_simp; try with_reducible rfl)); refine wpAnyH_take (i := 1) (v := ?_) rfl (by kernel_rfl) (by kernel_rfl) (by kernel_rfl) (fun _ _ _ h => h) (Or.inl ⟨by rfl, ?_⟩) (by assumption) ?_; rotate_left; (· (intro w hSw; go_simp; try with_reducible rfl)); refine wpAnyH_take (i := 2) (v := ?_) rfl (by kernel_rfl) (by kernel_rfl) (by kernel_rfl) (fun _ _ _ h => h) (Or.inl ⟨by rfl, ?_⟩) (by assumption) ?_; rotate_left; (· (intro w hSw; go_simp; try with_reducible rfl)); refine wpAnyH_take (i := 3) (v := ?_) rfl (by kernel_rfl) (by kernel_rfl) (by kernel_rfl) (fun _ _ _ h => h) (Or.inl ⟨by rfl, ?_⟩) (by assumption) ?_; rotate_left; (· (intro w hSw; go_simp; try with_reducible rfl)); refine wpAnyH_take (i := 5) (v := ?_) rfl (by kernel_rfl) (by kernel_rfl) (by kernel_rfl) (fun _ _ _ h => h) (Or.inl ⟨by rfl, ?_⟩) (by assumption) ?_; rotate_left; (· (intro w hSw; go_simp; try with_reducible rfl)); refine wpAnyH_take (i := 6) (v := ?_) rfl (by kernel_rfl) (by kernel_rfl) (by kernel_rfl) (fun _ _ _ h => h) (Or.inl ⟨by rfl, ?_⟩) (by assumption) ?_; rotate_left; (· (intro w hSw; go_simp; try with_reducible rfl)); refine wpAnyH_ready (rs := [4, 7]) (by kernel_rfl) (by simp) ?_; refine AllReadyH.cons rfl (fun K hK => ?_) ?_; go_simp; refine hK.out _ _ ?_ (fun hHeld => ?_); (· (exact trivial)); clear hK K; refine wpAnyH_ready (rs := [7]) (by kernel_rfl) (by simp) ?_; refine AllReadyH.cons rfl (fun K hK => ?_) ?_; go_simp; (first | (go_at_call 62; refine (HL.out _).mono ?_; rintro e w5 ⟨b5, k5, rfl, hO5, hk5⟩; have hq5 : Keep [] w w5 := ((Keep.refl [] w).drew).trans hk5 (by simp); have hB5 := HB.out.keep hq5 (by simp); have hO15 := HO.out.keep hq5 (by simp); have d1 : w5.cell? ⟨g, 1, none⟩ = some (.slice A l.length cap) := hB5.cell_eq rfl; have HB5 := Lib.hid hB5; have HO15 := Lib.hid hO15; have HO5 := Lib.hid hO5; have HQ5 := Lib.hid hq5; clear hq5 hB5 hO15 hO5 hk5) | fail); refine hK.out _ _ ?_ (fun hHeld => ?_); (· (exact trivial)); clear hK K; refine wpAnyH_ready (rs := [8]) (by kernel_rfl) (by simp) ?_; refine AllReadyH.cons rfl (fun K hK => ?_) ?_; (first | (obtain ⟨bc, oc, hbc, -, -, -, hbl5, hcl5⟩ := HO5.out.reads.cells (by rw [w32_len]; omega); injection hbc with hbc; injection hbc with hbc1 hbc2; subst hbc1 hbc2; refine step_append_us (by rfl) _ _ (by rfl) (by rfl) HO15.out (w32 n) ⟨b5, 0, none⟩ k5 4 rfl (by rfl) hcl5 (by rw [w32_len]; omega) (by have := HQ5.out.size; omega) ?_; intro A6 cap6 w6 ho6 hk6; have hB6 := HB5.out.keep hk6 (fun hc => by have := (HO15.out.lt g hc).1; omega); have z6 : w6.frozen? ⟨g, 1, none⟩ = false := hB6.frozen 1; have y6 : w6.cell? ⟨g, 1, none⟩ = some (.slice A l.length cap) := hB6.cell_eq rfl; have HB6 := Lib.hid hB6; have HO6 := Lib.hid ho6; have HK6 := Lib.hid hk6; clear hB6 ho6 hk6) | fail); refine hK.out _ _ ?_ (fun hHeld => ?_); (· (exact trivial)); clear hK K; refine wpAnyH_take (i := 9) (v := ?_) rfl (by kernel_rfl) (by kernel_rfl) (by kernel_rfl) (fun _ _ _ h => h) (Or.inl ⟨by rfl, ?_⟩) (by assumption) ?_; rotate_left; (· (intro w hSw; go_simp; try with_reducible rfl)); refine wpAnyH_take (i := 10) (v := ?_) rfl (by kernel_rfl) (by kernel_rfl) (by kernel_rfl) (fun _ _ _ h => h) (Or.inl ⟨by rfl, ?_⟩) (by assumption) ?_; rotate_left; (· (intro w hSw; go_simp; try with_reducible rfl)); refine wpAnyH_ready (rs := [11]) (by kernel_rfl) (by simp) ?_; refine AllReadyH.cons rfl (fun K hK => ?_) ?_; go_simp; refine hK.out _ _ ?_ (fun hHeld => ?_); (· (exact trivial)); clear hK K; refine wpAnyH_done (by kernel_rfl) ?_ _; refine NoPanic.normal ?_; rotate_left; exact AllReadyH.nil; exact AllReadyH.nil; exact AllReadyH.nil; refine AllReadyH.cons rfl (fun K hK => ?_) ?_; go_simp; (first | (go_at_call 62; refine (HL.out _).mono ?_; rintro e w5 ⟨b5, k5, rfl, hO5, hk5⟩; have hq5 : Keep [] w w5 := ((Keep.refl [] w).drew).trans hk5 (by simp); have hB5 := HB.out.keep hq5 (by simp); have hO15 := HO.out.keep hq5 (by simp); have d1 : w5.cell? ⟨g, 1, none⟩ = some (.slice A l.length cap) := hB5.cell_eq rfl; have HB5 := Lib.hid hB5; have HO15 := Lib.hid hO15; have HO5 := Lib.hid hO5; have HQ5 := Lib.hid hq5; clear hq5 hB5 hO15 hO5 hk5) | fail); refine hK.out _ _ ?_ (fun hHeld => ?_); (· (exact trivial)); clear hK K; refine wpAnyH_ready (rs := [4]) (by kernel_rfl) (by simp) ?_; refine AllReadyH.cons rfl (fun K hK => ?_) ?_; go_simp; refine hK.out _ _ ?_ (fun hHeld => ?_); (· (exact trivial)); clear hK K; refine wpAnyH_ready (rs := [8]) (by kernel_rfl) (by simp) ?_; refine AllReadyH.cons rfl (fun K hK => ?_) ?_; (first | (obtain ⟨bc, oc, hbc, -, -, -, hbl5, hcl5⟩ := HO5.out.reads.cells (by rw [w32_len]; omega); injection hbc with hbc; injection hbc with hbc1 hbc2; subst hbc1 hbc2; refine step_append_us (by rfl) _ _ (by rfl) (by rfl) HO15.out (w32 n) ⟨b5, 0, none⟩ k5 4 rfl (by rfl) hcl5 (by rw [w32_len]; omega) (by have := HQ5.out.size; omega) ?_; intro A6 cap6 w6 ho6 hk6; have hB6 := HB5.out.keep hk6 (fun hc => by have := (HO15.out.lt g hc).1; omega); have z6 : w6.frozen? ⟨g, 1, none⟩ = false := hB6.frozen 1; have y6 : w6.cell? ⟨g, 1, none⟩ = some (.slice A l.length cap) := hB6.cell_eq rfl; have HB6 := Lib.hid hB6; have HO6 := Lib.hid ho6; have HK6 := Lib.hid hk6; clear hB6 ho6 hk6) | fail); refine hK.out _ _ ?_ (fun hHeld => ?_); (· (exact trivial)); clear hK K; refine wpAnyH_take (i := 9) (v := ?_) rfl (by kernel_rfl) (by kernel_rfl) (by kernel_rfl) (fun _ _ _ h => h) (Or.inl ⟨by rfl, ?_⟩) (by assumption) ?_; rotate_left; (· (intro w hSw; go_simp; try with_reducible rfl)); refine wpAnyH_take (i := 10) (v := ?_) rfl (by kernel_rfl) (by kernel_rfl) (by kernel_rfl) (fun _ _ _ h => h) (Or.inl ⟨by rfl, ?_⟩) (by assumption) ?_; rotate_left; (· (intro w hSw; go_simp; try with_reducible rfl)); refine wpAnyH_ready (rs := [11]) (by kernel_rfl) (by simp) ?_; refine AllReadyH.cons rfl (fun K hK => ?_) ?_; go_simp; refine hK.out _ _ ?_ (fun hHeld => ?_); (· (exact trivial)); clear hK K; refine wpAnyH_done (by kernel_rfl) ?_ _; refine NoPanic.normal ?_; rotate_left; exact AllReadyH.nil; exact AllReadyH.nil; exact AllReadyH.nil; exact AllReadyH.nil)
  all_goals
    go_end0
    have hks : Keep [g] w6 (w6.setCell ⟨g, 1, none⟩ (.slice A6 (l.length + 4) cap6)) := (Keep.refl _ _).setCell (.inl (by simp)) _
    refine ⟨rfl, _, by simpa using Blk.set_ HB6.out 1 (.slice A6 (l.length + 4) cap6), HO6.out.keep hks (fun x hx hc => by have := (HO6.out.lt x hx).1; simp at hc; omega), ?_⟩
    exact ((HQ5.out.mono (fun x hx => by cases hx)).trans HK6.out (fun x hx => .inl (List.mem_cons_of_mem _ hx))).trans hks (fun x hx => .inl (by simp at hx; simp [hx]))
end Go.Proofs.YtmfoiceofhcicaaGreatDoor

namespace Go.Proofs.YtmfoiceofhcicaaGreatDoor
open Go.RowKit Go.IntWalk

theorem parts20_any : ∀ n, PaM n
  | 0 => fun _ _ _ _ _ _ _ _ _ _ h => by cases h
  | n + 1 => parts20_step n (choice20_step n (parts20_any n))
theorem tabT_take_len (P : List ByteArray) (k : Nat) : (tabT (P.take k)).length ≤ (tabT P).length := by
  conv => rhs; rw [← List.take_append_drop k P]
  have : ∀ a b : List ByteArray, (tabT (a ++ b)).length = (tabT a).length + (tabT b).length := fun a b => by
    induction a with
    | nil => simp [tabT]
    | cons x r ih => simp only [List.cons_append, tabT, List.length_append, ih]; omega
  rw [this]
  omega
theorem own_form {w : World} {B : Nat} {v : Value} {l : List UInt8} (h : OwnU w B v l) (hne : 0 < l.length) : ∃ b c, v = .slice (some ⟨b, 0, none⟩) l.length c := by
  obtain ⟨b, m, cap, rfl⟩ := own_some h hne
  obtain ⟨A', c', he⟩ := h.form
  injection he with _ hm _
  exact ⟨b, cap, by rw [hm]⟩
set_option maxRecDepth 100000 in
set_option maxHeartbeats 8000000 in
/-- vernacularref20.Code. -/
theorem code20_any (n : Nat) (l : List PT) (S : Nat → Prop) (v : Value) (w : World) (hf : (formF n l).2 = 0) (hL : Lies n S w v l) :
    Calls Tryz.prog 16 #[v] w fun e w' => ∃ u, e = .returned u ∧ OwnU w' w.heap.size u (codeF n l) ∧ Keep [] w w' := by
  obtain ⟨hr, -, -, hbk⟩ := form_fine hf
  obtain ⟨hcs, -⟩ := code_short hf
  have HTX := Lib.hid (texts20All n l false S v w hr hL (by omega))
  have HCF : Hid (codeF n l = w16 (poolF (textF n l)).length ++ tabT (poolF (textF n l)) ++ w32 (lenF n l + 1) ++ codF (poolF (textF n l)) n (⟨#[]⟩, 0) 0 l ++ [0]) := rfl
  have hlc : (codF (poolF (textF n l)) n (⟨#[]⟩, 0) 0 l).length = lenF n l := codF_len _ _ _ _ _
  have hlt : (tabT (poolF (textF n l))).length + lenF n l ≤ 57351 := by
    unfold codeF at hcs
    simp only [List.length_append, w16_len, w32_len, hlc, List.length_cons, List.length_nil] at hcs
    omega
  have hpl : (poolF (textF n l)).length ≤ 65535 := by
    have h1 := pool_len (textF n l)
    have h2 := textF_bulk n l
    omega
  have HSZ : Hid (∀ s ∈ poolF (textF n l), s.size ≤ 1000000) := fun s hs => by
    have h1 := textF_size n l s (pool_mem.1 hs)
    omega
  have HPA : Hid (∀ W g tv, Blk W g 82 #[tv, .slice none 0 0, .string ⟨#[]⟩, .int .i64 0] → RdC (fun x => x < g) W tv (poolF (textF n l)).length ((poolF (textF n l)).map Value.string) → w.heap.size ≤ g → Keep [] w W →
      Calls Tryz.prog 34 #[.pointer (some ⟨g, 0, none⟩), v] W fun e w' => e = .returned (.tuple #[]) ∧ MkW w w' g (poolF (textF n l)) (⟨#[]⟩, 0) (codF (poolF (textF n l)) n (⟨#[]⟩, 0) 0 l)) := fun W g tv hB hT hg hK => by
    have h := parts20_any n l false S v w W g (poolF (textF n l)) (⟨#[]⟩, 0) [] hr (fun h => by cases h) hL ⟨tv, _, hB, OwnU.nil _ _, hT, hg, hK⟩ (fun s hs => pool_mem.2 hs) hpl (by simp; omega)
    refine h.mono ?_
    rintro e w' ⟨h1, h2, -⟩
    exact ⟨h1, by simpa using h2⟩
  obtain ⟨A0, m0, c0, rfl⟩ := hL.form
  clear hr hbk hcs hL hf
  generalize codF (poolF (textF n l)) n (⟨#[]⟩, 0) 0 l = C0 at *
  generalize lenF n l = z at *
  generalize poolF (textF n l) = P at *
  go_enter Tryz.func16, Tryz.ntmps16
  go_upto_region 2 with (go_at_call 26; refine HTX.out.mono ?_; rintro e w1 ⟨A1, c1, rfl, hO1, hk1⟩; have HO1 := Lib.hid hO1; have HK1 := Lib.hid hk1; clear hO1 hk1)
  have hY : Blk (w1.alloc (.cells #[.slice A1 P.length c1, .slice none 0 0, .string ⟨#[]⟩, .int .i64 0] 82)) w1.heap.size 82 #[.slice A1 P.length c1, .slice none 0 0, .string ⟨#[]⟩, .int .i64 0] := Blk.new _ _ _
  have hkx : Keep [] w1 (w1.alloc (.cells #[.slice A1 P.length c1, .slice none 0 0, .string ⟨#[]⟩, .int .i64 0] 82)) := (Keep.refl _ _).alloc _
  have hR1 : RdC (fun x => x < w1.heap.size) w1 (.slice A1 P.length c1) P.length (P.map Value.string) := RdC.of_own (by simp) HO1.out (fun x hx => (HO1.out.lt x hx).2)
  have hR2 := hR1.keep hkx (by simp)
  have hg0 := HK1.out.size
  have hK2 := HK1.out.nil hkx
  generalize w1.alloc (.cells #[.slice A1 P.length c1, .slice none 0 0, .string ⟨#[]⟩, .int .i64 0] 82) = W2 at *
  obtain ⟨g, hg⟩ : ∃ g, w1.heap.size = g := ⟨_, rfl⟩
  rw [hg] at hY hR2 hg0 ⊢
  have HP2 := Lib.hid (HPA.out W2 g _ hY hR2 hg0 hK2)
  clear hY hkx hR1 hR2 hK2 hg HPA HTX HO1 HK1
  go_upto_region 4 with (first
    | (go_at_call 34; refine HP2.out.mono ?_; rintro e w3 ⟨rfl, hM3⟩; obtain ⟨A3, m3, c3, y1, hO3, hz3, hone3⟩ := hM3.one; have HONE := Lib.hid hone3; have HO3 := Lib.hid hO3; clear hM3 hO3 hone3)
    | (at_builtin; refine wpList_append_b rfl _ _ rfl rfl HO3.out 0 0 rfl rfl (by omega) hz3 ?_; intro v4 w4 ho4 hk4 hl4; obtain ⟨hM4, -, d4, z4⟩ := HONE.out 0 w4 v4 ho4 hk4; obtain ⟨A4, m4, c4, rfl⟩ := ho4.formM; have HM4 := Lib.hid hM4; clear ho4 hk4 hl4 hM4)
    | fail)
  generalize w4.setCell ⟨g, 1, none⟩ (.slice A4 m4 c4) = W4 at *
  obtain ⟨tv, v4b, hB4, hO4, hT4, -, hK4⟩ := HM4.out
  have hCl : (C0 ++ [0]).length = z + 1 := by rw [List.length_append, hlc]; rfl
  obtain ⟨nc, hnc⟩ : ∃ nc, z + 1 = nc := ⟨_, rfl⟩
  rw [hnc] at hCl
  have HNC := Lib.hid hnc
  have hncl : nc ≤ 60000 := by omega
  obtain ⟨C, hC⟩ : ∃ C, C0 ++ [0] = C := ⟨_, rfl⟩
  rw [hC] at hO4 hCl
  obtain ⟨cb, ccap, rfl⟩ := own_form hO4 (by rw [hCl, ← hnc]; omega)
  rw [hCl] at hO4 hB4
  obtain ⟨A5, c5, rfl, hn5, hm5, hat5⟩ := hT4
  have c1 : W4.cell? ⟨g, 1, none⟩ = some (.slice (some ⟨cb, 0, none⟩) nc ccap) := hB4.cell_eq rfl
  have f1 := hB4.frozen 1
  have hB5 : Blk (W4.setCell ⟨g, 1, none⟩ (.slice none 0 0)) g 82 #[.slice A5 P.length c5, .slice none 0 0, .string ⟨#[]⟩, .int .i64 0] := by simpa using Blk.set_ hB4 1 (.slice none 0 0)
  have hk5 : Keep [g] W4 (W4.setCell ⟨g, 1, none⟩ (.slice none 0 0)) := (Keep.refl _ _).setCell (.inl (by simp)) _
  have hO5 := hO4.keep hk5 (fun x hx hc => by have := (hO4.lt x hx).1; simp at hc; omega)
  have hat6 : 0 < P.length → ∃ b o, A5 = some ⟨b, o, none⟩ ∧ b < g ∧ b < W4.heap.size ∧ ∀ (j : Nat) (u : Value), (P.map Value.string)[j]? = some u → (W4.setCell ⟨g, 1, none⟩ (.slice none 0 0)).cell? ⟨b, o + j, none⟩ = some u := fun h0 => by
    obtain ⟨b, o, e1, e2, e3, e4⟩ := hat5 h0
    exact ⟨b, o, e1, e2, e3, fun j u hu => (hk5.cell (p := ⟨b, o + j, none⟩) e3 (by simp; omega)).trans (e4 j u hu)⟩
  have HATP := Lib.hid hat6
  have HC := Lib.hid hC
  have HCL := Lib.hid hCl
  have hK5 : Keep [] w (W4.setCell ⟨g, 1, none⟩ (.slice none 0 0)) := hK4.trans hk5 (fun x hx => .inr (by simp at hx; omega))
  have hz5 : W4.heap.size = (W4.setCell ⟨g, 1, none⟩ (.slice none 0 0)).heap.size := by simp
  clear HP2 HM4 hat5 hat6 hk5 hK4 hO4 y1 d4 z4 hz3 HONE HO3 hC hCl hlc hnc
  go_upto_region 6 with fail
  generalize W4.setCell ⟨g, 1, none⟩ (.slice none 0 0) = W5 at *
  have hgl := hB5.lt
  have y0 : W5.cell? ⟨g, 0, none⟩ = some (.slice A5 P.length c5) := hB5.cell_eq rfl
  have HT5 := Lib.hid (two20_fr W5 g W5.heap.size (.slice A5 P.length c5) (.slice none 0 0) (⟨#[]⟩, 0) [] P.length hB5 (OwnU.nil _ _) hgl (Nat.le_refl _) (by omega) (by simp))
  have HO5 := Lib.hid hO5
  have HK5 := Lib.hid hK5
  have hcg : g + 1 ≤ cb := (hO5.lt cb (by simp [Value.ownBlock])).1
  clear c1 f1 hB5 hO5 hK5
  go_wp2_with (first
    | (go_at_call 35; refine HT5.out.mono ?_; rintro e w6 ⟨rfl, v6, hB6, hO6, hk6⟩; obtain ⟨A6, m6, c6, rfl⟩ := hO6.formM; have z0 : w6.cell? ⟨g, 0, none⟩ = some (.slice A5 P.length c5) := hB6.cell_eq rfl; have HB6 := Lib.hid hB6; have HO6 := Lib.hid hO6; have HK6 : Hid (Keep [g] W5 w6) := hk6.mono (fun x hx => .inl (by simpa [Value.ownBlock] using hx)); clear hB6 hO6 hk6 y0)
    | fail)
  go_loopw [42] (fun i wr => ∃ k : Nat, k ≤ P.length ∧ i = .int .i64 k ∧ ∃ A m c, Blk wr g 82 #[.slice A5 P.length c5, .slice A m c, .string ⟨#[]⟩, .int .i64 0] ∧ OwnU wr W5.heap.size (.slice A m c) (w16 P.length ++ tabT (P.take k)) ∧ Keep [g] W5 wr) (fun i _ => P.length - (intOf i).toNat)
  case atStart => exact ⟨0, Nat.zero_le _, rfl, A6, m6, c6, HB6.out, by simpa [tabT] using HO6.out, HK6.out⟩
  case round =>
    obtain ⟨k, hk, rfl, Ax, mx, cx, hBx, hOx, hKx⟩ := hrel
    have hzx := hKx.size
    by_cases hlt' : k < P.length
    · obtain ⟨s, hs⟩ : ∃ s, P[k]? = some s := ⟨_, List.getElem?_eq_getElem hlt'⟩
      obtain ⟨b, o, rfl, hbg, hbl, hat⟩ := HATP.out (by omega)
      have a0 : wr.cell? ⟨b, o + k, none⟩ = some (.string s) := (hKx.cell (p := ⟨b, o + k, none⟩) (by simp only; omega) (by simp; omega)).trans (hat k _ (by rw [List.getElem?_map, hs]; rfl))
      have hsz := HSZ.out s (List.mem_of_getElem? hs)
      have HTK := Lib.hid (tabT_take hs)
      have htl := tabT_take_len P k
      have hl1 : (w16 P.length ++ tabT (P.take k)).length ≤ 60000 := by rw [List.length_append, w16_len]; omega
      have HTW := Lib.hid (two20_fr wr g W5.heap.size (.slice (some ⟨b, o, none⟩) P.length c5) (.slice Ax mx cx) (⟨#[]⟩, 0) _ s.size hBx hOx hgl hzx (by omega) (by omega))
      have HOx := Lib.hid hOx
      have HKx := Lib.hid hKx
      clear hBx hOx hKx hat hs
      go_wp2_with (first
        | (go_at_call 35; refine HTW.out.mono ?_; rintro e w7 ⟨rfl, v7, hB7, hO7, hk7⟩; obtain ⟨A7, m7, c7, rfl⟩ := hO7.formM; have y7 : w7.cell? ⟨g, 1, none⟩ = some (.slice A7 m7 c7) := hB7.cell_eq rfl; have HB7 := Lib.hid hB7; have HO7 := Lib.hid hO7; have hz7 : W5.heap.size ≤ w7.heap.size := Nat.le_trans hzx hk7.size; have HK7 := Lib.hid (HKx.out.trans hk7 (fun x hx => by rcases List.mem_cons.1 hx with hx | hx; exact .inl (by simp [hx]); exact .inr (HOx.out.lt x hx).1)); clear hB7 hO7 hk7)
        | (at_builtin; refine wpList_append_s rfl _ _ rfl rfl HO7.out s rfl (by rw [List.length_append, w16_len]; omega) hz7 ?_; intro v8 w8 ho8 hk8; have hB8 := HB7.out.keep hk8 (fun hc => by have := (HO7.out.lt g hc).1; omega); have y8 : w8.cell? ⟨g, 1, none⟩ = some (.slice A7 m7 c7) := hB8.cell_eq rfl; have z8 := hB8.frozen 1; obtain ⟨A8, m8, c8, rfl⟩ := ho8.formM; have HB8 := Lib.hid hB8; have HO8 := Lib.hid ho8; have HK8 := Lib.hid (HK7.out.trans hk8 (fun x hx => .inr (HO7.out.lt x hx).1)); clear hB8 ho8 hk8)
        | fail)
      go_roundw
      case rel =>
        have hks : Keep [g] w8 (w8.setCell ⟨g, 1, none⟩ (.slice A8 m8 c8)) := (Keep.refl _ _).setCell (.inl (by simp)) _
        refine ⟨k + 1, by omega, by go_num, A8, m8, c8, by simpa using Blk.set_ HB8.out 1 (.slice A8 m8 c8), ?_, HK8.out.same hks⟩
        rw [HTK.out, show w16 P.length ++ (tabT (P.take k) ++ (w16 s.size ++ s.data.toList)) = ((w16 P.length ++ tabT (P.take k)) ++ w16 s.size) ++ s.data.toList by simp only [List.append_assoc]]
        exact HO8.out.keep hks (fun x hx hc => by have := (HO8.out.lt x hx).1; simp at hc; omega)
      case measure => simp [intOf]; omega
    · obtain rfl : k = P.length := by omega
      rw [List.take_length] at hOx
      have h4 := four20_fr wr g W5.heap.size (.slice A5 P.length c5) (.slice Ax mx cx) (⟨#[]⟩, 0) _ nc hBx hOx hgl hzx (by omega) (by rw [List.length_append, w16_len]; omega)
      have HF4 := Lib.hid h4
      have HOx := Lib.hid hOx
      have HKx := Lib.hid hKx
      clear hBx hOx hKx h4
      go_wp2_with (first
        | (go_at_call 36; refine HF4.out.mono ?_; rintro e w9 ⟨rfl, v9, hB9, hO9, hk9⟩; obtain ⟨A9, m9, c9, rfl⟩ := hO9.formM; have y9 : w9.cell? ⟨g, 1, none⟩ = some (.slice A9 m9 c9) := hB9.cell_eq rfl; have hz9 : W5.heap.size ≤ w9.heap.size := Nat.le_trans hzx hk9.size; have hK9 : Keep [g] W5 w9 := HKx.out.trans hk9 (fun x hx => by rcases List.mem_cons.1 hx with hx | hx; exact .inl (by simp [hx]); exact .inr (HOx.out.lt x hx).1); have hC9 := HO5.out.keep hK9 (fun x hx hc => by have := (HO5.out.lt x hx).1; simp at hc; omega); have HC9 := Lib.hid hC9; have HO9 := Lib.hid hO9; have HK9 := Lib.hid hK9; clear hB9 hO9 hk9 hK9 hC9)
        | (at_builtin; obtain ⟨b9, o9, e9, -, -, -, -, hcl9⟩ := HC9.out.reads.cells (by have := HCL.out; have := HNC.out; omega); injection e9 with e9; injection e9 with e91 e92; subst e91 e92; refine wpList_append_us rfl _ _ rfl rfl HO9.out C ⟨cb, 0, none⟩ ccap (by rw [HCL.out]; rfl) hcl9 (by rw [HCL.out, List.length_append, List.length_append, w16_len, w32_len]; omega) hz9 ?_; intro va wa hoa hka; have HOA := Lib.hid hoa; have HKA := Lib.hid (HK9.out.trans hka (fun x hx => .inr (HO9.out.lt x hx).1)); clear hoa hka)
        | fail)
      go_ret
      refine ⟨va, rfl, ?_, HK5.out.trans HKA.out (fun x hx => .inr (by simp at hx; omega))⟩
      rw [HCF.out, show w16 P.length ++ tabT P ++ w32 (z + 1) ++ C0 ++ [0] = ((w16 P.length ++ tabT P) ++ w32 nc) ++ C by rw [← HC.out, HNC.out]; simp only [List.append_assoc]]
      exact HOA.out.le HK5.out.size
end Go.Proofs.YtmfoiceofhcicaaGreatDoor
