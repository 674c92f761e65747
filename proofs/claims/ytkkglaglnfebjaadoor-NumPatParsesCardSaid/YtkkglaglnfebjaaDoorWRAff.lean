/- Walks: the reference's affix. -/
import Derived.Test.YtkkglaglnfebjaaDoorWAdd
namespace Go.Proofs.YtkkglaglnfebjaaDoor
open Go.RowKit Go.IntWalk

theorem pre_yes {s : ByteArray} {q : Nat} {b : UInt8} (h : isB s q b.toNat) : preB s q ⟨#[b]⟩ = true := by rw [preB_one]; exact decide_eq_true h
theorem pre_no {s : ByteArray} {q : Nat} {b : UInt8} (h : ¬ isB s q b.toNat) : preB s q ⟨#[b]⟩ = false := by rw [preB_one]; exact decide_eq_false h
theorem pre2_yes {s : ByteArray} {q : Nat} {b c : UInt8} (h : isB s q b.toNat ∧ isB s (q + 1) c.toNat) : preB s q ⟨#[b, c]⟩ = true := by rw [preB_two]; exact decide_eq_true h
theorem pre2_no {s : ByteArray} {q : Nat} {b c : UInt8} (h : ¬ (isB s q b.toNat ∧ isB s (q + 1) c.toNat)) : preB s q ⟨#[b, c]⟩ = false := by rw [preB_two]; exact decide_eq_false h

theorem OwnA.heap {W wr : World} {B : Nat} {v : Value} {l : List Aff} (h : OwnA wr B v l) (hW : W.heap = wr.heap) : OwnA W B v l := by
  unfold OwnA World.ownsRow at h ⊢
  rw [hW]
  exact h
theorem Keep.frm {bs : List Nat} {W wr w' : World} (h : Keep bs W w') (h1 : W.heap = wr.heap) (h2 : W.os = wr.os) (h3 : W.tape = wr.tape) (h4 : W.output = wr.output) : Keep bs wr w' :=
  ⟨h.os.trans h2, h.tape.trans h3, h.output.trans h4, h1 ▸ h.size, fun k hk hn => (h.block k (h1 ▸ hk) hn).trans (by rw [h1])⟩
/-- A quiet call in a second region: the draws add up. -/
theorem again_same {P : Program} {f : FuncId} {args : Array Value} {w : World} {a n : Nat} {v : Value} (h : Calls P f args (w.drewN (a + n)) fun e w' => e = .returned v ∧ w' = w.drewN (a + n)) : Calls P f args (w.drewN (a + n)) fun e w' => e = .returned v ∧ ∃ m, w' = w.drewN (a + m) :=
  h.mono fun _ _ hp => ⟨hp.1, n, hp.2⟩
theorem again_left {P : Program} {f : FuncId} {args : Array Value} {w : World} {a n : Nat} {v : Value} (h : Calls P f args (w.drewN (a + n)) fun e w' => e = .returned v ∧ w.drewN (a + n) = w') : Calls P f args (w.drewN (a + n)) fun e w' => e = .returned v ∧ ∃ m, w' = w.drewN (a + m) :=
  h.mono fun _ _ hp => ⟨hp.1, n, hp.2.symm⟩
def specials : ByteArray := ⟨#[35, 48, 44, 46, 59, 39, 123, 125]⟩
theorem idx_call (c : UInt8) (W : World) : Calls Tryd.prog 89 #[.string ⟨#[35, 48, 44, 46, 59, 39, 123, 125]⟩, .int .u8 (c.toNat : Int)] W fun e w' => e = .returned (.int .i64 (Lib.indexByte [35, 48, 44, 46, 59, 39, 123, 125] c)) ∧ w' = W :=
  (Tryd.strings_IndexByte ⟨#[35, 48, 44, 46, 59, 39, 123, 125]⟩ (c.toNat : Int) W).mono fun e w' ⟨h1, h2⟩ => ⟨by rw [h1]; simp, h2⟩
theorem idx_yes (s : ByteArray) (q : Nat) (hq : q < s.size) (h : stopN (s.get! q).toNat = true) : ∃ z : Nat, z < 8 ∧ ∀ W, Calls Tryd.prog 89 #[.string ⟨#[35, 48, 44, 46, 59, 39, 123, 125]⟩, .int .u8 (s[q].toNat : Int)] W fun e w' => e = .returned (.int .i64 (z : Int)) ∧ w' = W := by
  rw [get!_eq s q hq] at h
  have hz : ∃ z : Nat, z < 8 ∧ Lib.indexByte [35, 48, 44, 46, 59, 39, 123, 125] s[q] = (z : Int) := by
    simp only [stopN, Bool.or_eq_true, beq_iff_eq] at h
    have h2 : s[q] = 35 ∨ s[q] = 48 ∨ s[q] = 44 ∨ s[q] = 46 ∨ s[q] = 59 ∨ s[q] = 123 ∨ s[q] = 125 := by
      simp only [← UInt8.toNat_inj]
      change s[q].toNat = 35 ∨ s[q].toNat = 48 ∨ s[q].toNat = 44 ∨ s[q].toNat = 46 ∨ s[q].toNat = 59 ∨ s[q].toNat = 123 ∨ s[q].toNat = 125
      omega
    rcases h2 with h2 | h2 | h2 | h2 | h2 | h2 | h2 <;> rw [h2]
    · exact ⟨0, by omega, by decide⟩
    · exact ⟨1, by omega, by decide⟩
    · exact ⟨2, by omega, by decide⟩
    · exact ⟨3, by omega, by decide⟩
    · exact ⟨4, by omega, by decide⟩
    · exact ⟨6, by omega, by decide⟩
    · exact ⟨7, by omega, by decide⟩
  obtain ⟨z, hz1, hz2⟩ := hz
  exact ⟨z, hz1, fun W => by have := idx_call s[q] W; rw [hz2] at this; exact this⟩
theorem idx_no (s : ByteArray) (q : Nat) (hq : q < s.size) (h : stopN (s.get! q).toNat = false) (h39 : ¬ isB s q 39) : ∀ W, Calls Tryd.prog 89 #[.string ⟨#[35, 48, 44, 46, 59, 39, 123, 125]⟩, .int .u8 (s[q].toNat : Int)] W fun e w' => e = .returned (.int .i64 (-1)) ∧ w' = W := by
  rw [get!_eq s q hq] at h
  have h3 : s[q].toNat ≠ 39 := fun hc => h39 ⟨hq, by rw [get!_eq s q hq]; exact hc⟩
  have hz : Lib.indexByte [35, 48, 44, 46, 59, 39, 123, 125] s[q] = -1 := by
    rw [← Bool.not_eq_true] at h
    simp only [stopN, Bool.or_eq_true, beq_iff_eq, not_or] at h
    have e : ∀ (n : UInt8), s[q].toNat ≠ n.toNat → (n == s[q]) = false := fun n hn => beq_eq_false_iff_ne.2 (fun hc => hn (by rw [hc]))
    have e1 := e 35 (by change s[q].toNat ≠ 35; omega)
    have e2 := e 48 (by change s[q].toNat ≠ 48; omega)
    have e3 := e 44 (by change s[q].toNat ≠ 44; omega)
    have e4 := e 46 (by change s[q].toNat ≠ 46; omega)
    have e5 := e 59 (by change s[q].toNat ≠ 59; omega)
    have e6 := e 39 (by change s[q].toNat ≠ 39; omega)
    have e7 := e 123 (by change s[q].toNat ≠ 123; omega)
    have e8 := e 125 (by change s[q].toNat ≠ 125; omega)
    simp only [Lib.indexByte, e1, e2, e3, e4, e5, e6, e7, e8]
    rfl
  exact fun W => by have := idx_call s[q] W; rw [hz] at this; exact this
/-- What affix hands back. -/
def RAPost (w : World) (g : Nat) (s : ByteArray) (q0 : Nat) : Except Nat (List Aff × Nat) → Ending → World → Prop
  | .ok (l, q), x, w' => ∃ v, x = .returned v ∧ OwnA w' w.heap.size v l ∧ Sc w' g s q 0 0 ∧ Keep [g] w w' ∧ q0 ≤ q ∧ q ≤ s.size ∧ okAt s q
  | .error y, x, w' => x = .returned (.slice none 0 0) ∧ (∃ q : Int, Sc w' g s q 260 y) ∧ Keep [g] w w'
/-- What holds of the loop. -/
structure AR (w0 : World) (g : Nat) (s : ByteArray) (q0 : Nat) (R : Except Nat (List Aff × Nat)) (v : Value) (wx : World) (q f : Nat) (l : List Aff) : Prop where
  own : OwnA wx w0.heap.size v l
  sc : Sc wx g s q 0 0
  kp : Keep [g] w0 wx
  le : q0 ≤ q
  qs : q ≤ s.size
  ok : okAt s q
  mon : monOk s l q
  bd : AffIn l q
  fuel : s.size < q + f
  run : aroundF s f q l = R
/-- The same memory, but for the draws. -/
structure SameW (W wr : World) : Prop where
  heap : W.heap = wr.heap
  os : W.os = wr.os
  tape : W.tape = wr.tape
  output : W.output = wr.output
theorem SameW.refl (w : World) : SameW w w := ⟨rfl, rfl, rfl, rfl⟩
theorem SameW.drew {W wr w' : World} (h : SameW W wr) (hw : W.drew = w') : SameW w' wr := by subst hw; exact ⟨h.heap, h.os, h.tape, h.output⟩
theorem SameW.drewN {W wr : World} (h : SameW W wr) (n : Nat) : SameW (W.drewN n) wr := ⟨h.heap, h.os, h.tape, h.output⟩
theorem SameW.sc {W wr : World} {g : Nat} {s : ByteArray} {q e ea : Int} (h : SameW W wr) (hS : Sc wr g s q e ea) : Sc W g s q e ea := by unfold Sc Blk at hS ⊢; rw [h.heap]; exact hS
theorem SameW.own {W wr : World} {B : Nat} {v : Value} {l : List Aff} (h : SameW W wr) (hS : OwnA wr B v l) : OwnA W B v l := hS.heap h.heap
theorem SameW.keep {W wr w' : World} {bs : List Nat} (h : SameW W wr) (hk : Keep bs W w') : Keep bs wr w' := Keep.frm hk h.heap h.os h.tape h.output
theorem SameW.kept {W wr w0 : World} {bs : List Nat} (h : SameW W wr) (hk : Keep bs w0 wr) : Keep bs w0 W := hk.same (h.keep (Keep.refl bs W))
/-- Pieces with so many currency signs more. -/
def monL (l : List Aff) (c : Nat) : List Aff := if c = 0 then l else l ++ [⟨5, ⟨#[]⟩, c⟩]
theorem monL_next {s : ByteArray} {l : List Aff} {f q c : Nat} (hm : isB s q 194 ∧ isB s (q + 1) 164) (h0 : c = 0 → monOk s l q) (hc : c < 3) : aroundF s (f + 1) q (monL l c) = aroundF s f (q + 2) (monL l (c + 1)) := by
  unfold monL
  rw [if_neg (Nat.succ_ne_zero c)]
  by_cases h : c = 0
  · subst h
    rw [if_pos rfl, aroundB_first (h0 rfl) hm]
    rfl
  · rw [if_neg h, aroundB_more _ _ (by omega) hm]
    rfl
theorem monL_three {s : ByteArray} {l : List Aff} {f q : Nat} (hm : isB s q 194 ∧ isB s (q + 1) 164) : aroundF s (f + 1) q (monL l 3) = .error q := by
  unfold monL
  rw [if_neg (by omega)]
  exact aroundB_three _ hm
structure MR (w1 : World) (g : Nat) (s : ByteArray) (q : Nat) (l : List Aff) (R : Except Nat (List Aff × Nat)) (wx : World) (c q' f' : Nat) : Prop where
  sc : Sc wx g s q' 0 0
  kp : Keep [g] w1 wx
  cle : c ≤ 3
  qs : q' ≤ s.size
  far : q + 2 * c = q'
  ok : okAt s q'
  fuel : s.size < q' + f'
  run : aroundF s f' q' (monL l c) = R
theorem MR.next {w1 wx W : World} {g : Nat} {s : ByteArray} {q : Nat} {l : List Aff} {R : Except Nat (List Aff × Nat)} {c q' f' : Nat} (h : MR w1 g s q l R wx c q' (f' + 1)) (hW : SameW W wx)
    (hm : isB s q' 194 ∧ isB s (q' + 1) 164) (h0 : monOk s l q) (hc : c < 3) (z : Int) (hz : z = ((q' + 2 : Nat) : Int)) : MR w1 g s q l R (W.setCell ⟨g, 1, none⟩ (.int .i64 z)) (c + 1) (q' + 2) f' := by
  subst hz
  have hS : Sc W g s q' 0 0 := hW.sc h.sc
  have hK : Keep [g] w1 W := hW.kept h.kp
  have hf := h.far
  have hr := h.run
  rw [monL_next hm (fun h00 => by rw [← hf, h00]; exact h0) hc] at hr
  have hok := okAt_next h.ok hm.1.1
  rw [form_money2 hm] at hok
  exact ⟨hS.place _, hK.setCell (.inl (by simp)) _, by omega, hm.2.1, by omega, hok, by have := h.fuel; omega, hr⟩
/-- Behind a quoted text. -/
def qNext (s : ByteArray) (f q : Nat) (l : List Aff) : Option (List UInt8 × Nat) → Except Nat (List Aff × Nat)
  | none => .error q
  | some (t, r) => aroundF s f r (textAdd l ⟨t.toArray⟩)
theorem aroundB_qNext {s : ByteArray} {f q : Nat} {l : List Aff} (h : isB s q 39) (h2 : ¬ isB s (q + 1) 39) : aroundF s (f + 1) q l = qNext s f q l (quotedF s (s.size - q) (q + 1) []) := by
  rw [aroundB_quote h h2]
  cases quotedF s (s.size - q) (q + 1) [] with
  | none => rfl
  | some x => rfl
/-- What holds of the loop over a quoted text. -/
structure QR (w1 : World) (g : Nat) (s : ByteArray) (q : Nat) (RQ : Option (List UInt8 × Nat)) (wx : World) (t : ByteArray) (q' f' : Nat) : Prop where
  sc : Sc wx g s q' 0 0
  kp : Keep [g] w1 wx
  qs : q' ≤ s.size
  far : t.size + q + 1 ≤ q'
  fuel : s.size < q' + f'
  run : quotedF s f' q' t.data.toList = RQ
theorem get_ext (s : ByteArray) (q : Nat) (h : q < s.size) : (s.extract q (q + 1)).data.toList = [s.get! q] := by
  rw [ext_list2, list_get s q h, show q + 1 - q = 1 by omega]
  rfl
theorem QR.next {w1 wx W : World} {g : Nat} {s : ByteArray} {q : Nat} {RQ : Option (List UInt8 × Nat)} {t : ByteArray} {q' f' f'' n : Nat} {x : ByteArray} {q2 : Int} (h : QR w1 g s q RQ wx t q' f') (hW : Keep [g] wx W) (hS : Sc W g s q2 0 0)
    (hn : q' + n ≤ s.size) (hx : x.size + q' ≤ q' + n) (hf : s.size < q' + n + f'') (hr : quotedF s f'' (q' + n) (t ++ x).data.toList = RQ) (z : Int) (hz : z = ((q' + n : Nat) : Int)) : QR w1 g s q RQ (W.setCell ⟨g, 1, none⟩ (.int .i64 z)) (t ++ x) (q' + n) f'' := by
  subst hz
  exact ⟨hS.place _, (h.kp.same hW).setCell (.inl (by simp)) _, hn, by have := h.far; rw [ByteArray.size_append]; omega, hf, hr⟩
theorem of_bytes (t : ByteArray) : (⟨t.data.toList.toArray⟩ : ByteArray) = t := by cases t; simp
theorem app_list (t x : ByteArray) : (t ++ x).data.toList = t.data.toList ++ x.data.toList := by simp
section
variable {w0 wx w' : World} {g q q0 f : Nat} {s : ByteArray} {R : Except Nat (List Aff × Nat)} {v v' : Value} {l l' : List Aff}
/-- A round's end: the pieces anew, then the place. -/
theorem AR.quote {q' f' : Nat} {w1 w2 : World} {t : ByteArray} {RQ : Option (List UInt8 × Nat)} (h : AR w0 g s q0 R v wx q (f + 1) l) (hM : QR wx g s q RQ w1 t q' (f' + 1)) (hR : qNext s f q l RQ = R) (hb : isB s q' 39) (hb2 : ¬ isB s (q' + 1) 39) (ho : OwnA w' w0.heap.size v' (textAdd l t)) (hk : Keep [g] w1 w2) (hS : Sc w2 g s (q' + 1 : Nat) 0 0) (hk2 : Keep [] w2 w') : AR w0 g s q0 R v' w' (q' + 1) f (textAdd l t) := by
  have hr := hM.run
  rw [quotedF_shut hb hb2] at hr
  rw [← hr] at hR
  simp only [qNext] at hR
  rw [of_bytes] at hR
  have hf := hM.far
  have hok := okAt_ascii (q' - q + 1) q q' (by omega) h.ok (by omega) hb.1 (by have := hb.2; omega)
  exact ⟨ho, hS.keep hk2 (by simp), ((h.kp.same hM.kp).same hk).nil hk2, by have := h.le; omega, hb.1, hok, monOk.text _ _ _ _, h.bd.text (by omega) _ (by omega), by have := h.fuel; omega, hR⟩
theorem AR.money {q' f' c : Nat} {w1 : World} (h : AR w0 g s q0 R v wx q f l) (hg : g < w0.heap.size) (hM : MR wx g s q l R w1 c q' f') (hc : c ≠ 0) (hm : ¬ (isB s q' 194 ∧ isB s (q' + 1) 164)) (ho : OwnA w' w0.heap.size v' (l ++ [⟨5, ⟨#[]⟩, c⟩])) (hk : Keep v.ownBlock.toList w1 w') : AR w0 g s q0 R v' w' q' f' (l ++ [⟨5, ⟨#[]⟩, c⟩]) := by
  have hr := hM.run
  unfold monL at hr
  rw [if_neg hc] at hr
  have hf := hM.far
  exact ⟨ho, hM.sc.keep hk (h.own.notin hg), (h.kp.same hM.kp).trans hk (fun x hx => .inr (h.own.lt x hx)), by have := h.le; omega, hM.qs, hM.ok, monOk.here hm, h.bd.push (by omega) _ (by simp [ByteArray.size]) (by have := hM.cle; simp only; omega), hM.fuel, hr⟩
theorem AR.next (h : AR w0 g s q0 R v wx q f l) (hg : g < w0.heap.size) (n : Nat) (hn : 0 < n) (hq : q + n ≤ s.size) {f' : Nat} (ho : OwnA w' w0.heap.size v' l') (hk : Keep v.ownBlock.toList wx w') (hok : okAt s (q + n)) (hm : monOk s l' (q + n)) (hb : AffIn l' (q + n)) (hf : s.size < q + n + f')
    (hr : aroundF s f' (q + n) l' = R) (z : Int) (hz : z = ((q + n : Nat) : Int)) : AR w0 g s q0 R v' (w'.setCell ⟨g, 1, none⟩ (.int .i64 z)) (q + n) f' l' := by
  subst hz
  have hs : Sc w' g s q 0 0 := h.sc.keep hk (h.own.notin hg)
  have hk2 : Keep [g] w0 w' := h.kp.trans hk (fun x hx => .inr (h.own.lt x hx))
  exact ⟨ho.setRd hg _ _, hs.place _, hk2.setCell (.inl (by simp)) _, by have := h.le; omega, hq, hok, hm, hb, hf, hr⟩
end

set_option maxRecDepth 100000 in
set_option maxHeartbeats 4000000 in
theorem raffix_any (w : World) (g : Nat) (s : ByteArray) (q0 f0 : Nat) (hS : Sc w g s q0 0 0) (hs : s.size ≤ 100000000) (hq0 : q0 ≤ s.size) (hok : okAt s q0) (hf0 : s.size < q0 + f0) :
    Calls Tryd.prog 37 #[.pointer (some ⟨g, 0, none⟩)] w (RAPost w g s q0 (aroundF s f0 q0 [])) := by
  obtain ⟨R, hR⟩ : ∃ R, aroundF s f0 q0 [] = R := ⟨_, rfl⟩
  rw [hR]
  have hgl := (Sc.all hS).2.2.2.2.2
  have HA0 : Hid (AR w g s q0 R (.slice none 0 0) w q0 f0 []) := ⟨OwnA.nil _ _, hS, Keep.refl _ _, Nat.le_refl _, hq0, hok, monOk.nil _ _, AffIn.nil _, hf0, hR⟩
  clear hS hok hf0 hR
  go_enter Tryd.func37, Tryd.ntmps37
  go_wp2
  go_loopg [3] (s.size - q0) (fun k s3 wx => ∃ (v : Value) (q f : Nat) (l : List Aff), q + k = s.size ∧ v = s3 ∧ AR w g s q0 R v wx q f l)
  case atStart => exact ⟨_, q0, f0, [], by omega, rfl, HA0.out⟩
  case round =>
    obtain ⟨v, q, f, l, hqk, rfl, hA⟩ := hrel
    have HA := Lib.hid hA
    obtain ⟨c0, c1, c2, c3, cf, cz⟩ := hA.sc.all
    have hqs := hA.qs
    have HS := Lib.hid hA.sc
    have HQK := Lib.hid hqk
    have hqi : (q : Int) ≤ s.size := by omega
    have HI : ∀ W : World, W.heap = wr.heap → Hid (∀ word, Calls Tryd.prog 39 #[.pointer (some ⟨g, 0, none⟩), .string word] W fun x w' => x = .returned (.bool (preB s q word)) ∧ W.drew = w') := fun W hW word => is_any W g s q 0 0 word (by have := HS.out; unfold Sc Blk at this ⊢; rw [hW]; exact this) hqs
    have HO : ∀ W : World, W.heap = wr.heap → Hid (OwnA W w.heap.size v l) := fun W hW => hA.own.heap hW
    have HBw : ∀ W : World, W.heap = wr.heap → w.heap.size ≤ W.heap.size := fun W hW => by rw [hW]; exact hA.kp.size
    have hln : l.length ≤ 1000000000000 := by have := hA.bd.1; omega
    have HAd : ∀ (W : World) (x : ByteArray), W.heap = wr.heap → x.size ≤ 100000000 → Hid (Calls Tryd.prog 88 #[v, .agg #[.int .i64 1, .string x, .int .i64 0]] W fun e w' => ∃ v', e = .returned v' ∧ OwnA w' w.heap.size v' (textAdd l x) ∧ Keep [] W w') := fun W x hW hx =>
      (radd_any W v l x (hA.own.heap hW) (by have := hA.bd.1; omega) (fun a ha => by have := (hA.bd.2 a ha).1; omega) (by omega)).mono fun e w' ⟨v', h1, h2, h3⟩ => ⟨v', h1, h2.mono (HBw W hW), h3⟩
    have HAk : ∀ (W : World) (x : ByteArray), Keep [g] wr W → x.size ≤ 100000000 → Hid (Calls Tryd.prog 88 #[v, .agg #[.int .i64 1, .string x, .int .i64 0]] W fun e w' => ∃ v', e = .returned v' ∧ OwnA w' w.heap.size v' (textAdd l x) ∧ Keep [] W w') := fun W x hk hx =>
      (radd_any W v l x (hA.own.keep hk (fun y hy hc => by have := hA.own.lt y hy; simp at hc; omega)) (by have := hA.bd.1; omega) (fun a ha => by have := (hA.bd.2 a ha).1; omega) (by omega)).mono fun e w' ⟨v', h1, h2, h3⟩ => ⟨v', h1, h2.mono (Nat.le_trans hA.kp.size hk.size), h3⟩
    clear hA hqk HA0
    by_cases hlt : q < s.size
    · have hlt' : (q : Int) < s.size := by omega
      obtain ⟨f, rfl⟩ : ∃ f', f = f' + 1 := ⟨f - 1, by have := HA.out.fuel; omega⟩
      by_cases h39 : isB s q 39
      · by_cases h40 : isB s (q + 1) 39
        · as_aux_lemma =>
            have e1 : preB s q ⟨#[39, 39]⟩ = true := pre2_yes ⟨h39, h40⟩
            have HN := Lib.hid (okAt_byte (okAt_byte HA.out.ok h39 (by omega)) h40 (by omega))
            have HB : Hid (aroundF s f (q + 2) (textAdd l ⟨#[39]⟩) = R) := by have := HA.out.run; rw [aroundB_twice h39 h40] at this; exact this
            have hq2 : q + 2 ≤ s.size := h40.1
            clear h39 h40
            go_upto_region 2 with fail
            go_quiet (fail)
            go_wp2_with (first
              | (go_at_call 39; refine ((HI _ (by rfl)).out _).mono ?_; rintro e w' ⟨rfl, rfl⟩)
              | (go_at_call 88; refine (HAd _ ⟨#[39]⟩ (by rfl) (by first | decide | omega)).out.mono ?_; rintro e w4 ⟨v', rfl, h1, h2'⟩; have h2 : Keep [] wr w4 := Keep.frm h2' (by rfl) (by rfl) (by rfl) (by rfl); clear h2'; obtain ⟨d0, d1, d2, d3, df, dz⟩ := (HS.out.keep h2 (by simp)).all))
            go_roundg (s.size - (q + 2))
            case measure => have := HQK.out; omega
            case rel => exact ⟨v', q + 2, f, _, by have := HQK.out; omega, rfl, HA.out.next hgl 2 (by omega) (by omega) h1 (h2.mono (fun _ hx => by cases hx)) HN.out (monOk.text _ _ _ _) (HA.out.bd.text (by omega) _ (by simp [ByteArray.size]; omega)) (by have := HA.out.fuel; omega) HB.out _ (by omega)⟩
        · as_aux_lemma =>
            have e1 : preB s q ⟨#[39, 39]⟩ = false := pre2_no (fun h => h40 h.2)
            have e39 : preB s q ⟨#[39]⟩ = true := pre_yes h39
            obtain ⟨RQ, hRQ⟩ : ∃ RQ, quotedF s (s.size - q) (q + 1) [] = RQ := ⟨_, rfl⟩
            have HB : Hid (qNext s f q l RQ = R) := by have := HA.out.run; rw [aroundB_qNext h39 h40, hRQ] at this; exact this
            have HRQ := Lib.hid hRQ
            clear h39 h40 hRQ
            go_upto_region 2 with fail
            go_quiet (fail)
            go_wp2_with (first
              | (go_at_call 39; refine ((HI _ (by rfl)).out _).mono ?_; rintro e w' ⟨rfl, rfl⟩))
            go_loopg [5] (s.size - (q + 1)) (fun k s5 wx => ∃ (t : ByteArray) (q' f' : Nat), s5 = .string t ∧ q' + k = s.size ∧ QR wr g s q RQ wx t q' f')
            case atStart =>
              have hc : ((q : Int) + 1) = ((q + 1 : Nat) : Int) := by omega
              refine ⟨⟨#[]⟩, q + 1, s.size - q, rfl, by omega, ⟨?_, ((Keep.refl _ _).drewN _).setCell (.inl (by simp)) _, by omega, (by simp [ByteArray.size]), by omega, HRQ.out⟩⟩
              rw [hc]
              exact Sc.place (Sc.drewN HS.out _) _
            case round =>
              obtain ⟨t, q', f', rfl, hqk', hM⟩ := hrel
              obtain ⟨c0, c1, c2, c3, cf, cz⟩ := hM.sc.all
              have HI2 : ∀ W : World, SameW W wr → Hid (∀ word, Calls Tryd.prog 39 #[.pointer (some ⟨g, 0, none⟩), .string word] W fun x w' => x = .returned (.bool (preB s q' word)) ∧ SameW w' wr) := fun W hW word => (is_any W g s q' 0 0 word (hW.sc hM.sc) hM.qs).mono fun _ _ h => ⟨h.1, hW.drew h.2⟩
              have hqs' := hM.qs
              have hts := hM.far
              have HM2 := Lib.hid hM
              have HQ2 := Lib.hid hqk'
              have HS2 := Lib.hid hM.sc
              obtain ⟨f', rfl⟩ : ∃ f'', f' = f'' + 1 := ⟨f' - 1, by have := hM.fuel; omega⟩
              have hqi' : (q' : Int) ≤ s.size := by omega
              clear hM hqk' HI HO HBw
              by_cases hend : q' = s.size
              · have e2 : preB s q' ⟨#[39]⟩ = false := pre_no (fun h => by have := h.1; omega)
                have hq5 : ((q' : Int) == (s.size : Int)) = true := by rw [hend]; exact beq_self_eq_true _
                have hq6 : (q' == s.size) = true := by rw [hend]; exact beq_self_eq_true _
                have HBe : Hid (R = .error q) := by
                  have h1 := HM2.out.run
                  rw [quotedF_end (by omega)] at h1
                  have := HB.out
                  rw [← h1] at this
                  exact this.symm
                have HW : ∀ W : World, SameW W wr → Hid (Calls Tryd.prog 40 #[.pointer (some ⟨g, 0, none⟩), .int .i64 260, .int .i64 q] W fun e w' => e = .returned (.tuple #[]) ∧ Sc w' g s q' 260 q ∧ Keep [g] W w') := fun W hW => wrong_any W g s q' 0 260 q (hW.sc HS2.out)
                clear hend HAd HAk
                go_upto_region 14 with (first
                  | (go_at_call 39; refine ((HI2 _ (by first | exact HX.out | exact SameW.refl _)).out _).mono ?_; rintro e w5 ⟨rfl, hx⟩; have HX := Lib.hid hx; obtain ⟨b0, b1, b2, b3, bf, bz⟩ := (hx.sc HS2.out).all; clear hx))
                go_quiet (fail)
                go_wp2_with (first
                  | (go_at_call 40; refine (HW _ (HX.out.drewN _)).out.mono ?_; rintro e w4 ⟨rfl, h1, h2⟩))
                go_ret
                rw [HBe.out]
                exact ⟨rfl, ⟨q', h1⟩, (HA.out.kp.same HM2.out.kp).same ((HX.out.drewN _).keep h2)⟩
              have hq5 : ((q' : Int) == (s.size : Int)) = false := by rw [beq_eq_false_iff_ne]; omega
              have hq6 : (q' == s.size) = false := by rw [beq_eq_false_iff_ne]; omega
              have hql : q' < s.size := by omega
              have hqli : (q' : Int) < s.size := by omega
              have HPl : Hid (∀ (W : World) (x : ByteArray), x.size ≤ 10 → (Op.stringOp .add t x).run Tryd.prog W = .ok (.string (t ++ x)) W) := fun W x hx => run_string_add_sum W _ _ (by omega)
              clear hend
              by_cases h39 : isB s q' 39
              · have e2 : preB s q' ⟨#[39]⟩ = true := pre_yes h39
                by_cases h40 : isB s (q' + 1) 39
                · have e3 : preB s q' ⟨#[39, 39]⟩ = true := pre2_yes ⟨h39, h40⟩
                  have hl2 : q' + 1 < s.size := h40.1
                  have HNx : Hid (quotedF s f' (q' + 2) (t ++ s.extract (q' + 1) (q' + 2)).data.toList = RQ) := by
                    have h1 := HM2.out.run
                    rw [quotedF_twice h39 h40] at h1
                    rw [app_list, get_ext s (q' + 1) hl2, show s.get! (q' + 1) = 39 from UInt8.toNat_inj.1 h40.2]
                    exact h1
                  have hPl : ∀ W, (Op.stringOp .add t (s.extract (q' + 1) (q' + 2))).run Tryd.prog W = .ok (.string (t ++ s.extract (q' + 1) (q' + 2))) W := fun W => HPl.out W _ (by rw [ByteArray.size_extract]; omega)
                  clear h39 h40 HAd HAk
                  go_upto_region 14 with (first
                    | (go_at_call 39; refine ((HI2 _ (by first | exact HX.out | exact SameW.refl _)).out _).mono ?_; rintro e w5 ⟨rfl, hx⟩; have HX := Lib.hid hx; obtain ⟨b0, b1, b2, b3, bf, bz⟩ := (hx.sc HS2.out).all; clear hx))
                  go_quiet (fail)
                  have hy := HX.out.drewN nq
                  generalize w5.drewN nq = w6 at hy ⊢
                  have HX := Lib.hid hy
                  clear b0 b1 b2 b3 bf bz
                  obtain ⟨b0, b1, b2, b3, bf, bz⟩ := (hy.sc HS2.out).all
                  clear hy
                  go_upto_region 19 with (first
                    | (go_at_call 39; refine ((HI2 _ (by first | exact HX.out | exact SameW.refl _)).out _).mono ?_; rintro e w5 ⟨rfl, hx⟩; have HX := Lib.hid hx; obtain ⟨b0, b1, b2, b3, bf, bz⟩ := (hx.sc HS2.out).all; clear hx))
                  have hy := (HX.out.sc HS2.out).place ((q' : Int) + 1)
                  have hk7 : Keep [g] wr (w5.setCell ⟨g, 1, none⟩ (.int .i64 ((q' : Int) + 1))) := (HX.out.kept (Keep.refl [g] wr)).setCell (.inl (by simp)) _
                  have HK7 := Lib.hid hk7
                  have HS7 := Lib.hid hy
                  clear b0 b1 b2 b3 bf bz hk7
                  generalize w5.setCell ⟨g, 1, none⟩ (.int .i64 ((q' : Int) + 1)) = w7 at *
                  obtain ⟨b0, b1, b2, b3, bf, bz⟩ := hy.all
                  clear hy
                  have s1 : IntKind.i64.wrap ((q' : Int) + 1 + 1) = (q' : Int) + 2 := by rw [show (q' : Int) + 1 + 1 = (q' : Int) + 2 by omega]; exact IntWalk.i64_in _ (by omega)
                  have s1' : IntKind.i64.wrap ((q' : Int) + 2) = (q' : Int) + 2 := IntWalk.i64_in _ (by omega)
                  have s2 : (0 : Int) ≤ (q' : Int) + 1 := by omega
                  have s2' : (0 : Int) ≤ (q' : Int) + 2 := by omega
                  have s3 : ((q' : Int) + 1).toNat = q' + 1 := by omega
                  have s3' : ((q' : Int) + 2).toNat = q' + 2 := by omega
                  have s4 : (q' : Int) + 1 ≤ (q' : Int) + 2 := by omega
                  have s5 : (q' : Int) + 2 ≤ s.size := by omega
                  go_quiet (fail)
                  clear s1 s1' s2 s2' s3 s3' s4 s5
                  go_wp2
                  go_roundg (s.size - (q' + 2))
                  case measure => have := HQ2.out; omega
                  case rel => exact ⟨_, q' + 2, f', rfl, by have := HQ2.out; omega, HM2.out.next (HK7.out.drewN _) (HS7.out.drewN _) (by omega) (by rw [ByteArray.size_extract]; omega) (by have := HM2.out.fuel; omega) HNx.out _ (by omega)⟩
                · have e3 : preB s q' ⟨#[39, 39]⟩ = false := pre2_no (fun h => h40 h.2)
                  have H39 := Lib.hid h39
                  have H40 := Lib.hid h40
                  clear h39 h40 HAd
                  have hk7 : ∀ W, SameW W wr → Keep [g] wr (W.setCell ⟨g, 1, none⟩ (.int .i64 ((q' : Int) + 1))) := fun W hW => (hW.kept (Keep.refl [g] wr)).setCell (.inl (by simp)) _
                  have HK7 := Lib.hid hk7
                  clear hk7
                  go_wp2_with (first
                    | (go_at_call 39; refine ((HI2 _ (by first | exact HX.out | exact SameW.refl _)).out _).mono ?_; rintro e w5 ⟨rfl, hx⟩; have HX := Lib.hid hx; obtain ⟨b0, b1, b2, b3, bf, bz⟩ := (hx.sc HS2.out).all; clear hx)
                    | (go_at_call 88; refine (HAk _ t (HM2.out.kp.same (HK7.out _ HX.out)) (by omega)).out.mono ?_; rintro e w4 ⟨v', rfl, h1, h2⟩))
                  go_roundg (s.size - (q' + 1))
                  case measure => have := HQK.out; omega
                  case rel => exact ⟨v', q' + 1, f, _, by omega, rfl, HA.out.quote HM2.out HB.out H39.out H40.out h1 (HK7.out _ HX.out) ((HX.out.sc HS2.out).place _) h2⟩
              · have e2 : preB s q' ⟨#[39]⟩ = false := pre_no h39
                have e3 : preB s q' ⟨#[39, 39]⟩ = false := pre2_no (fun h => h39 h.1)
                have HNx : Hid (quotedF s (f' + 1) (q' + 1) (t ++ s.extract q' (q' + 1)).data.toList = RQ) := by
                  have h1 := HM2.out.run
                  rw [quotedF_byte hql h39] at h1
                  rw [app_list, get_ext s q' hql]
                  exact h1
                have hPl : ∀ W, (Op.stringOp .add t (s.extract q' (q' + 1))).run Tryd.prog W = .ok (.string (t ++ s.extract q' (q' + 1))) W := fun W => HPl.out W _ (by rw [ByteArray.size_extract]; omega)
                clear h39 HAd HAk
                go_upto_region 14 with (first
                  | (go_at_call 39; refine ((HI2 _ (by first | exact HX.out | exact SameW.refl _)).out _).mono ?_; rintro e w5 ⟨rfl, hx⟩; have HX := Lib.hid hx; obtain ⟨b0, b1, b2, b3, bf, bz⟩ := (hx.sc HS2.out).all; clear hx))
                go_quiet (fail)
                have hy := HX.out.drewN nq
                generalize w5.drewN nq = w6 at hy ⊢
                have HX := Lib.hid hy
                clear b0 b1 b2 b3 bf bz
                obtain ⟨b0, b1, b2, b3, bf, bz⟩ := (hy.sc HS2.out).all
                clear hy
                go_upto_region 19 with (first
                  | (go_at_call 39; refine ((HI2 _ (by first | exact HX.out | exact SameW.refl _)).out _).mono ?_; rintro e w5 ⟨rfl, hx⟩; have HX := Lib.hid hx; obtain ⟨b0, b1, b2, b3, bf, bz⟩ := (hx.sc HS2.out).all; clear hx))
                have s1 : IntKind.i64.wrap ((q' : Int) + 1) = (q' : Int) + 1 := IntWalk.i64_in _ (by omega)
                have s2 : (0 : Int) ≤ (q' : Int) + 1 := by omega
                have s3 : ((q' : Int) + 1).toNat = q' + 1 := by omega
                have s4 : (q' : Int) ≤ (q' : Int) + 1 := by omega
                have s5 : (q' : Int) + 1 ≤ s.size := by omega
                go_quiet (fail)
                clear s1 s2 s3 s4 s5
                go_wp2
                go_roundg (s.size - (q' + 1))
                case measure => have := HQ2.out; omega
                case rel => exact ⟨_, q' + 1, f' + 1, rfl, by have := HQ2.out; omega, HM2.out.next (((HX.out.drewN _).kept (Keep.refl [g] wr))) ((HX.out.drewN _).sc HS2.out) (by omega) (by rw [ByteArray.size_extract]; omega) (by have := HM2.out.fuel; omega) HNx.out _ (by omega)⟩
      by_cases h37 : isB s q 37
      · as_aux_lemma =>
          have e1 : preB s q ⟨#[39, 39]⟩ = false := pre2_no (fun h => h39 h.1)
          have e39 : preB s q ⟨#[39]⟩ = false := pre_no h39
          have e37 : preB s q ⟨#[37]⟩ = true := pre_yes h37
          have HN := Lib.hid (okAt_byte HA.out.ok h37 (by omega))
          have HB : Hid (aroundF s f (q + 1) (l ++ [⟨2, ⟨#[]⟩, 0⟩]) = R) := by have := HA.out.run; rw [aroundB_sign 37 2 h37 (by omega)] at this; exact this
          clear h39  h37
          go_upto_region 2 with fail
          go_quiet (fail)
          go_wp2_with (first
            | (go_at_call 39; refine ((HI _ (by rfl)).out _).mono ?_; rintro e w' ⟨rfl, rfl⟩)
            | (at_builtin; refine wpList_append_aff rfl _ _ rfl rfl (HO _ (by rfl)).out _ (by rfl) ⟨2, ⟨#[]⟩, 0⟩ rfl hln (HBw _ (by rfl)) ?_; intro v' w4 h1 h2'; have h2 : Keep v.ownBlock.toList wr w4 := Keep.frm h2' (by rfl) (by rfl) (by rfl) (by rfl); clear h2'; obtain ⟨d0, d1, d2, d3, df, dz⟩ := (HS.out.keep h2 (HA.out.own.notin hgl)).all))
          go_roundg (s.size - (q + 1))
          case measure => have := HQK.out; omega
          case rel => exact ⟨v', q + 1, f, _, by have := HQK.out; omega, rfl, HA.out.next hgl 1 (by omega) (by omega) h1 h2 HN.out (monOk.push _ _ _ _ (by decide)) (HA.out.bd.push (by omega) _ (by simp [ByteArray.size]) (by simp)) (by have := HA.out.fuel; omega) HB.out _ (by omega)⟩
      by_cases h45 : isB s q 45
      · as_aux_lemma =>
          have e1 : preB s q ⟨#[39, 39]⟩ = false := pre2_no (fun h => h39 h.1)
          have e39 : preB s q ⟨#[39]⟩ = false := pre_no h39
          have e37 : preB s q ⟨#[37]⟩ = false := pre_no h37
          have e45 : preB s q ⟨#[45]⟩ = true := pre_yes h45
          have HN := Lib.hid (okAt_byte HA.out.ok h45 (by omega))
          have HB : Hid (aroundF s f (q + 1) (l ++ [⟨3, ⟨#[]⟩, 0⟩]) = R) := by have := HA.out.run; rw [aroundB_sign 45 3 h45 (by omega)] at this; exact this
          clear h39 h37 h45
          go_upto_region 2 with fail
          go_quiet (fail)
          go_wp2_with (first
            | (go_at_call 39; refine ((HI _ (by rfl)).out _).mono ?_; rintro e w' ⟨rfl, rfl⟩)
            | (at_builtin; refine wpList_append_aff rfl _ _ rfl rfl (HO _ (by rfl)).out _ (by rfl) ⟨3, ⟨#[]⟩, 0⟩ rfl hln (HBw _ (by rfl)) ?_; intro v' w4 h1 h2'; have h2 : Keep v.ownBlock.toList wr w4 := Keep.frm h2' (by rfl) (by rfl) (by rfl) (by rfl); clear h2'; obtain ⟨d0, d1, d2, d3, df, dz⟩ := (HS.out.keep h2 (HA.out.own.notin hgl)).all))
          go_roundg (s.size - (q + 1))
          case measure => have := HQK.out; omega
          case rel => exact ⟨v', q + 1, f, _, by have := HQK.out; omega, rfl, HA.out.next hgl 1 (by omega) (by omega) h1 h2 HN.out (monOk.push _ _ _ _ (by decide)) (HA.out.bd.push (by omega) _ (by simp [ByteArray.size]) (by simp)) (by have := HA.out.fuel; omega) HB.out _ (by omega)⟩
      by_cases h43 : isB s q 43
      · as_aux_lemma =>
          have e1 : preB s q ⟨#[39, 39]⟩ = false := pre2_no (fun h => h39 h.1)
          have e39 : preB s q ⟨#[39]⟩ = false := pre_no h39
          have e37 : preB s q ⟨#[37]⟩ = false := pre_no h37
          have e45 : preB s q ⟨#[45]⟩ = false := pre_no h45
          have e43 : preB s q ⟨#[43]⟩ = true := pre_yes h43
          have HN := Lib.hid (okAt_byte HA.out.ok h43 (by omega))
          have HB : Hid (aroundF s f (q + 1) (l ++ [⟨4, ⟨#[]⟩, 0⟩]) = R) := by have := HA.out.run; rw [aroundB_sign 43 4 h43 (by omega)] at this; exact this
          clear h39 h37 h45 h43
          go_upto_region 2 with fail
          go_quiet (fail)
          go_wp2_with (first
            | (go_at_call 39; refine ((HI _ (by rfl)).out _).mono ?_; rintro e w' ⟨rfl, rfl⟩)
            | (at_builtin; refine wpList_append_aff rfl _ _ rfl rfl (HO _ (by rfl)).out _ (by rfl) ⟨4, ⟨#[]⟩, 0⟩ rfl hln (HBw _ (by rfl)) ?_; intro v' w4 h1 h2'; have h2 : Keep v.ownBlock.toList wr w4 := Keep.frm h2' (by rfl) (by rfl) (by rfl) (by rfl); clear h2'; obtain ⟨d0, d1, d2, d3, df, dz⟩ := (HS.out.keep h2 (HA.out.own.notin hgl)).all))
          go_roundg (s.size - (q + 1))
          case measure => have := HQK.out; omega
          case rel => exact ⟨v', q + 1, f, _, by have := HQK.out; omega, rfl, HA.out.next hgl 1 (by omega) (by omega) h1 h2 HN.out (monOk.push _ _ _ _ (by decide)) (HA.out.bd.push (by omega) _ (by simp [ByteArray.size]) (by simp)) (by have := HA.out.fuel; omega) HB.out _ (by omega)⟩
      by_cases hm : isB s q 194 ∧ isB s (q + 1) 164
      · as_aux_lemma =>
          have e1 : preB s q ⟨#[39, 39]⟩ = false := pre2_no (fun h => h39 h.1)
          have e39 : preB s q ⟨#[39]⟩ = false := pre_no h39
          have e37 : preB s q ⟨#[37]⟩ = false := pre_no h37
          have e45 : preB s q ⟨#[45]⟩ = false := pre_no h45
          have e43 : preB s q ⟨#[43]⟩ = false := pre_no h43
          have em : preB s q ⟨#[194, 164]⟩ = true := pre2_yes hm
          have HM := Lib.hid hm
          clear h39 h37 h45 h43 hm
          go_upto_region 2 with fail
          go_quiet (fail)
          go_wp2_with (first
            | (go_at_call 39; refine ((HI _ (by rfl)).out _).mono ?_; rintro e w' ⟨rfl, rfl⟩))
          go_loopg [6] (s.size - q) (fun k s6 wx => ∃ (c q' f' : Nat), s6 = .int .i64 c ∧ q' + k = s.size ∧ MR wr g s q l R wx c q' f')
          case atStart => exact ⟨0, q, f + 1, rfl, by omega, HS.out, ((Keep.refl _ _).drewN _), by omega, hqs, rfl, HA.out.ok, by have := HA.out.fuel; omega, HA.out.run⟩
          case round =>
            obtain ⟨c, q', f', rfl, hqk', hM⟩ := hrel
            have HI2 : ∀ W : World, SameW W wr → Hid (∀ word, Calls Tryd.prog 39 #[.pointer (some ⟨g, 0, none⟩), .string word] W fun x w' => x = .returned (.bool (preB s q' word)) ∧ SameW w' wr) := fun W hW word => (is_any W g s q' 0 0 word (hW.sc hM.sc) hM.qs).mono fun _ _ h => ⟨h.1, hW.drew h.2⟩
            obtain ⟨c0, c1, c2, c3, cf, cz⟩ := hM.sc.all
            have hqs' := hM.qs
            have hcle := hM.cle
            have HM2 := Lib.hid hM
            have HQ2 := Lib.hid hqk'
            have HF := Lib.hid hM.far
            have HO2 : ∀ W : World, SameW W wr → Hid (OwnA W w.heap.size v l) := fun W hW => (HA.out.own.keep hM.kp (fun x hx hc => by have := HA.out.own.lt x hx; simp at hc; omega)).heap hW.heap
            have HB2 : ∀ W : World, SameW W wr → w.heap.size ≤ W.heap.size := fun W hW => by rw [hW.heap]; exact Nat.le_trans HA.out.kp.size hM.kp.size
            have HS2 := Lib.hid hM.sc
            clear hM hqk' HI HO HBw HAd
            by_cases hm : isB s q' 194 ∧ isB s (q' + 1) 164
            · have em2 : preB s q' ⟨#[194, 164]⟩ = true := pre2_yes hm
              obtain ⟨f', rfl⟩ : ∃ f'', f' = f'' + 1 := ⟨f' - 1, by have := HM2.out.fuel; omega⟩
              have hq2 := hm.2.1
              have HMq := Lib.hid hm
              clear hm
              by_cases hc3 : c = 3
              · subst hc3
                have HB : Hid (R = .error q') := by have := HM2.out.run; rw [monL_three HMq.out] at this; exact this.symm
                have HW : ∀ W : World, SameW W wr → Hid (Calls Tryd.prog 40 #[.pointer (some ⟨g, 0, none⟩), .int .i64 260, .int .i64 q'] W fun e w' => e = .returned (.tuple #[]) ∧ Sc w' g s q' 260 q' ∧ Keep [g] W w') := fun W hW => wrong_any W g s q' 0 260 q' (hW.sc HS2.out)
                go_wp2_with (first
                  | (go_at_call 39; refine ((HI2 _ (by first | exact HX.out | exact SameW.refl _)).out _).mono ?_; rintro e w5 ⟨rfl, hx⟩; have HX := Lib.hid hx; obtain ⟨b0, b1, b2, b3, bf, bz⟩ := (hx.sc HS2.out).all; clear hx)
                  | (go_at_call 40; refine (HW _ HX.out).out.mono ?_; rintro e w4 ⟨rfl, h1, h2⟩))
                go_ret
                rw [HB.out]
                exact ⟨rfl, ⟨q', h1⟩, (HA.out.kp.same HM2.out.kp).same (HX.out.keep h2)⟩
              · have hc4 : ((c : Int) == 3) = false := by simpa using (by omega : (c : Int) ≠ 3)
                go_wp2_with (first
                  | (go_at_call 39; refine ((HI2 _ (by first | exact HX.out | exact SameW.refl _)).out _).mono ?_; rintro e w5 ⟨rfl, hx⟩; have HX := Lib.hid hx; obtain ⟨b0, b1, b2, b3, bf, bz⟩ := (hx.sc HS2.out).all; clear hx))
                go_roundg (s.size - (q' + 2))
                case measure => have := HQ2.out; omega
                case rel => exact ⟨c + 1, q' + 2, f', by go_num, by have := HQ2.out; omega, HM2.out.next HX.out HMq.out HA.out.mon (by omega) _ (by omega)⟩
            · have em2 : preB s q' ⟨#[194, 164]⟩ = false := pre2_no hm
              have hc0 : c ≠ 0 := fun h0 => hm (by have := HF.out; rw [h0] at this; rw [← show q = q' by omega]; exact HM.out)
              have HMq := Lib.hid hm
              have hqq : q < q' := by have := HF.out; omega
              clear hm
              go_wp2_with (first
                | (go_at_call 39; refine ((HI2 _ (by first | exact HX.out | exact SameW.refl _)).out _).mono ?_; rintro e w5 ⟨rfl, hx⟩; have HX := Lib.hid hx; obtain ⟨b0, b1, b2, b3, bf, bz⟩ := (hx.sc HS2.out).all; clear hx)
                | (at_builtin; refine wpList_append_aff rfl _ _ rfl rfl (HO2 _ HX.out).out _ (by rfl) ⟨5, ⟨#[]⟩, c⟩ rfl hln (HB2 _ HX.out) ?_; intro v' w4 h1 h2'; have h2 : Keep v.ownBlock.toList wr w4 := HX.out.keep h2'; clear h2'))
              go_roundg (s.size - q')
              case measure => have := HQK.out; omega
              case rel => exact ⟨v', q', f', _, by omega, rfl, HA.out.money hgl HM2.out hc0 HMq.out h1 h2⟩
      cases hst : stopN (s.get! q).toNat
      · as_aux_lemma =>
          have e1 : preB s q ⟨#[39, 39]⟩ = false := pre2_no (fun h => h39 h.1)
          have e39 : preB s q ⟨#[39]⟩ = false := pre_no h39
          have e37 : preB s q ⟨#[37]⟩ = false := pre_no h37
          have e45 : preB s q ⟨#[45]⟩ = false := pre_no h45
          have e43 : preB s q ⟨#[43]⟩ = false := pre_no h43
          have em : preB s q ⟨#[194, 164]⟩ = false := pre2_no hm
          have HB : Hid (aroundF s f (q + (formD s q).2) (textAdd l (s.extract q (q + (formD s q).2))) = R) := by have := HA.out.run; rw [aroundB_text HA.out.ok hlt hst ⟨h39, h37, h45, h43, hm⟩] at this; exact this
          have HN := Lib.hid (okAt_next HA.out.ok hlt)
          have hz := idx_no s q hlt hst h39
          have HZ := Lib.hid hz
          have hw := formD_wide s q hlt
          have HF : ∀ W, Hid (Calls Tryd.prog 87 #[.string s, .int .i64 q] W fun e w' => e = .returned (.tuple #[.int .i32 (formD s q).1, .int .i64 (formD s q).2]) ∧ W = w') := fun W => form_in s q W (by omega) hlt
          generalize (formD s q).2 = n at *
          generalize (formD s q).1 = x at *
          have hx : (s.extract q (q + n)).size = n := by rw [ByteArray.size_extract]; omega
          have HX := Lib.hid hx
          have hn1 : (q : Int) + n ≤ s.size := by omega
          have hn2 : (0 : Int) ≤ (q : Int) + n := by omega
          clear h39 h37 h45 h43 hm hst hz hx
          go_upto_region 2 with fail
          go_quiet (fail)
          go_upto_region 41 with (first
            | (go_at_call 39; refine ((HI _ (by rfl)).out _).mono ?_; rintro e w' ⟨rfl, rfl⟩))
          go_quiet ((go_at_call 89; exact again_same (HZ.out _)))
          go_upto_region 3 with fail
          go_quiet ((go_at_call 87; exact again_left (HF _).out))
          have s1 : IntKind.i64.wrap ((q : Int) + n) = (q : Int) + n := IntWalk.i64_in _ (by omega)
          have s2 : (0 : Int) ≤ (q : Int) + n := by omega
          have s3 : ((q : Int) + n).toNat = q + n := by omega
          have s4 : (q : Int) ≤ (q : Int) + n := by omega
          have s5 : (q : Int) + n ≤ s.size := by omega
          have hAx : ∀ W : World, W.heap = wr.heap → Hid (Calls Tryd.prog 88 #[v, .agg #[.int .i64 1, .string (s.extract q (q + n)), .int .i64 0]] W fun e w' => ∃ v', e = .returned v' ∧ OwnA w' w.heap.size v' (textAdd l (s.extract q (q + n))) ∧ Keep [] W w') := fun W hW => HAd W _ hW (by rw [HX.out]; omega)
          go_upto_region 4 with fail
          go_region_held3 (fun W => W.cell? ⟨g, 0, none⟩ = some (.string s) ∧ W.cell? ⟨g, 1, none⟩ = some (.int .i64 q)) (first | exact ⟨c0, c1⟩ | exact ⟨d0, d1⟩) (first | (go_at_call 88; refine (hAx _ (by rfl)).out.mono ?_; rintro e w4 ⟨v', rfl, h1, h2'⟩; have h2 : Keep [] wr w4 := Keep.frm h2' (by rfl) (by rfl) (by rfl) (by rfl); clear h2'; obtain ⟨d0, d1, d2, d3, df, dz⟩ := (HS.out.keep h2 (by simp)).all))
          clear s1 s2 s3 s4 s5
          go_wp2
          go_roundg (s.size - (q + n))
          case measure => have := HQK.out; omega
          case rel => exact ⟨v', q + n, f, _, by have := HQK.out; omega, rfl, HA.out.next hgl n (by omega) (by omega) h1 (h2.mono (fun _ hx => by cases hx)) HN.out (monOk.text _ _ _ _) (HA.out.bd.text (by omega) _ (by rw [HX.out]; omega)) (by have := HA.out.fuel; omega) HB.out _ (by omega)⟩
      · as_aux_lemma =>
          have e1 : preB s q ⟨#[39, 39]⟩ = false := pre2_no (fun h => h39 h.1)
          have e39 : preB s q ⟨#[39]⟩ = false := pre_no h39
          have e37 : preB s q ⟨#[37]⟩ = false := pre_no h37
          have e45 : preB s q ⟨#[45]⟩ = false := pre_no h45
          have e43 : preB s q ⟨#[43]⟩ = false := pre_no h43
          have em : preB s q ⟨#[194, 164]⟩ = false := pre2_no hm
          have HB : Hid (R = .ok (l, q)) := by have := HA.out.run; rw [aroundB_stop hlt hst] at this; exact this.symm
          obtain ⟨z, hz0, hz⟩ := idx_yes s q hlt hst
          have HZ := Lib.hid hz
          clear h39 h37 h45 h43 hm hst hz
          go_upto_region 2 with fail
          go_quiet (fail)
          go_upto_region 41 with (first
            | (go_at_call 39; refine ((HI _ (by rfl)).out _).mono ?_; rintro e w' ⟨rfl, rfl⟩))
          go_quiet ((go_at_call 89; exact again_same (HZ.out _)))
          go_wp2
          go_ret
          rw [HB.out]
          exact ⟨v, rfl, HA.out.own, HA.out.sc, (HA.out.kp.drewN _).drewN _, HA.out.le, hqs, HA.out.ok⟩
    · have hd : decide ((q : Int) < s.size) = false := by simp; omega
      have hd2 : decide (q < s.size) = false := by simp; omega
      have HB : Hid (R = .ok (l, q)) := by
        obtain ⟨f', hf'⟩ : ∃ f', f = f' + 1 := ⟨f - 1, by have := HA.out.fuel; omega⟩
        have := HA.out.run
        rw [hf', aroundF_end (by omega)] at this
        exact this.symm
      go_upto_region 2 with fail
      go_quiet (fail)
      go_wp2
      go_ret
      rw [HB.out]
      exact ⟨v, rfl, HA.out.own, HA.out.sc, HA.out.kp.drewN _, HA.out.le, hqs, HA.out.ok⟩
end Go.Proofs.YtkkglaglnfebjaaDoor
