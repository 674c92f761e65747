/- Plain: the document's reader of code (vernacularref20's lifter) in plain words; it reads back what is written. No walk. Walks: vernacularref20's lifter: num, text. Plain: where the document's lifter stops, and how far it goes in each round. No walk. Walks: vernacularref20's lifter: a choice, over its parts. Walks: vernacularref20's lifter: parts, at every depth. Walks: vernacularref20.Lift. Walks: vernacularlaw20.lifted. The law CodeLifts, walked. The ground of layer 20's rows: the library's variables off the row's list; a world for the witness. Parts and bytes that came in, opened. CodeLifts holds: which bytes are a message's code, and which message that is, for every bytes. The library's variables as the program's text lays them, tied by the card. -/
import Derived.Test.YtmfoiceofhcicaaGreatDoorKD
import Derived.Test.YtmfoiceofhcicaaGreatDoorXL1
import Derived.Test.YtmfoiceofhcicaaGreatDoorXKD
import Derived.Test.YtmfoiceofhcicaaGreatDoorCards
import Derived.Test.YtmfoiceofhcicaaGreatDoorTie
import Derived.Test.YtmfoiceofhcicaaGreatDoorEV
import Derived.ProofKit
import Derived.OpenShut
import Derived.Deep.Slices
import Derived.Deep.DeepHandedRow
import Derived.Lib.LaidU8
import Derived.PinnedBridge
import Derived.SizedLaws
import Derived.Lib.SmallJoins
import Derived.Lib.LaidIn
import Derived.Lib.TrailingZeros
import Derived.Test.YtmfoiceofhcicaaGreatDoorPB
import Derived.Test.YtmfoiceofhcicaaGreatDoorKF
import Derived.Deep.DeepWitnessRowRef
namespace Go.Proofs.YtmfoiceofhcicaaGreatDoor
open Go.RowKit

/-- The number of so many bytes from a place on; has it failed? -/
def nmL (B : List UInt8) (bad : Bool) (a n : Nat) : Nat × Bool := if bad = true ∨ B.length < a + n then (0, true) else (leN ((B.drop a).take n), false)
/-- A text by its number. -/
def txL (B : List UInt8) (T : List ByteArray) (bad : Bool) (a : Nat) (may : Bool) : ByteArray × Bool :=
  if may = true ∧ (nmL B bad a 2).1 = 65535 then (⟨#[]⟩, (nmL B bad a 2).2)
  else if (nmL B bad a 2).2 = true ∨ T.length ≤ (nmL B bad a 2).1 then (⟨#[]⟩, true) else (T.getD (nmL B bad a 2).1 ⟨#[]⟩, false)
/-- The cases of a choice that stands at a. M: reads parts. -/
def casF (B : List UInt8) (T : List ByteArray) (M : Bool → Nat → List PT × Nat × Bool) (a : Nat) : Nat → Nat → Nat → List CT → Bool → List CT × Nat × Bool
  | 0, _, nx, acc, bad => (acc, nx, bad)
  | m + 1, i, nx, acc, bad =>
    if bad = true then (acc, nx, true)
    else if (nmL B (txL B T false (a + 9 + 6 * i) false).2 (a + 11 + 6 * i) 4).1 ≠ nx then (acc, nx, true)
    else
      let l := M (nmL B (txL B T false (a + 9 + 6 * i) false).2 (a + 11 + 6 * i) 4).2 nx
      casF B T M a m (i + 1) (l.2.1 + 5) (acc ++ [((txL B T false (a + 9 + 6 * i) false).1, l.1)]) (if (nmL B l.2.2 l.2.1 1).1 ≠ 7 then true else (nmL B l.2.2 l.2.1 1).2)
/-- A choice. -/
def chF (B : List UInt8) (T : List ByteArray) (M : Bool → Nat → List PT × Nat × Bool) (d : Nat) (bad : Bool) (a : Nat) : PT × Nat × Bool :=
  let k := nmL B bad a 1
  let t := txL B T k.2 (a + 1) false
  let o := nmL B t.2 (a + 3) 4
  let n := nmL B o.2 (a + 7) 2
  if n.2 = true ∨ d = 0 ∨ n.1 = 0 ∨ B.length < a + 9 + 6 * n.1 then (⟨k.1, ⟨#[]⟩, t.1, ⟨#[]⟩, ⟨#[]⟩, o.1, []⟩, 0, true)
  else
    let c := casF B T M a n.1 0 (a + 9 + 6 * n.1) [] false
    (⟨k.1, ⟨#[]⟩, t.1, ⟨#[]⟩, ⟨#[]⟩, o.1, c.1⟩, c.2.1, c.2.2)
/-- Parts, round by round. C: reads a choice. -/
def ptF (B : List UInt8) (T : List ByteArray) (C : Bool → Nat → PT × Nat × Bool) : Nat → Bool → Nat → List PT → List PT × Nat × Bool
  | 0, _, _, _ => ([], 0, true)
  | f + 1, bad, a, acc =>
    if bad = true then ([], 0, true)
    else if (nmL B false a 1).1 = 1 then ptF B T C f (txL B T (nmL B false a 1).2 (a + 1) false).2 (a + 3) (acc ++ [textP (txL B T (nmL B false a 1).2 (a + 1) false).1])
    else if (nmL B false a 1).1 = 2 then ptF B T C f (txL B T (nmL B false a 1).2 (a + 1) false).2 (a + 7) (acc ++ [hashP])
    else if (nmL B false a 1).1 = 3 then
      let t := txL B T (nmL B false a 1).2 (a + 1) false
      let u := txL B T t.2 (a + 3) true
      let v := txL B T u.2 (a + 5) true
      ptF B T C f v.2 (a + 7) (acc ++ [⟨3, ⟨#[]⟩, t.1, u.1, v.1, 0, []⟩])
    else if (nmL B false a 1).1 = 4 ∨ (nmL B false a 1).1 = 5 ∨ (nmL B false a 1).1 = 6 then
      let c := C (nmL B false a 1).2 a
      ptF B T C f c.2.2 c.2.1 (acc ++ [c.1])
    else if (nmL B false a 1).1 = 7 ∨ (nmL B false a 1).1 = 0 then (acc, a, (nmL B false a 1).2)
    else ([], 0, true)
/-- Parts from a place on, so many choices within one another. -/
def lfF (B : List UInt8) (T : List ByteArray) : Nat → Bool → Nat → List PT × Nat × Bool
  | 0, bad, a => ptF B T (chF B T (fun _ _ => ([], 0, true)) 0) (B.length + 11) bad a []
  | d + 1, bad, a => ptF B T (chF B T (lfF B T d) (d + 1)) (B.length + 11) bad a []

/-! ### what is written is read back -/
section
variable {B W : List UInt8} {P : List ByteArray} {a n : Nat}
theorem nmL_at {X : List UInt8} (h : AtL B a (X ++ W)) (hX : 0 < X.length) : nmL B false a X.length = (leN X, false) := by
  have hl : B.length - a = X.length + W.length := by
    have := congrArg List.length h
    rw [List.length_drop, List.length_append] at this
    exact this
  unfold nmL
  rw [if_neg (by simp; omega), show B.drop a = X ++ W from h, List.take_left' rfl]
theorem nmL_1 {c : UInt8} (h : AtL B a (c :: W)) : nmL B false a 1 = (c.toNat, false) := by
  have := nmL_at (X := [c]) h (by simp)
  simpa [leN] using this
theorem nmL_16 (h : AtL B a (w16 n ++ W)) (hn : n < 65536) : nmL B false a 2 = (n, false) := by
  have := nmL_at h (by rw [w16_len]; omega)
  rw [w16_len, leN_16 hn] at this
  exact this
theorem nmL_32 (h : AtL B a (w32 n ++ W)) (hn : n < 4294967296) : nmL B false a 4 = (n, false) := by
  have := nmL_at h (by rw [w32_len]; omega)
  rw [w32_len, leN_32 hn] at this
  exact this
theorem txL_at {s : ByteArray} (m : Bool) (h : AtL B a (w16 (idxT P s) ++ W)) (hs : s ∈ P) (hP : P.length < 65536) : txL B P false a m = (s, false) := by
  have hi := idxT_lt hs
  unfold txL
  rw [nmL_16 h (by omega), if_neg (by simp only; omega), if_neg (by simp; omega)]
  simp only
  rw [List.getD_eq_getElem?_getD, idxT_get hs]
  rfl
theorem txL_opt {s : ByteArray} (h : AtL B a (w16 (optI P s) ++ W)) (hs : noB s = false → s ∈ P) (hP : P.length < 65536) : txL B P false a true = (s, false) := by
  cases hn : noB s with
  | false =>
    rw [optI, hn, if_neg (by decide)] at h
    exact txL_at true h (hs hn) hP
  | true =>
    rw [optI, hn, if_pos rfl] at h
    unfold txL
    rw [nmL_16 h (by decide), if_pos ⟨rfl, rfl⟩, noB_nil hn]
def LfAt (B : List UInt8) (P : List ByteArray) (n : Nat) : Prop := ∀ (l : List PT) (h : Bool) (q : InP) (a d : Nat) (j : UInt8) (W : List UInt8), rightF n l h = true → (∀ t ∈ textF n l, t ∈ P) → (h = true → q.1 ∈ P) → depthF n l ≤ d → a + lenF n l < 4294967296 → bulkF n l ≤ 60000 → (j = 7 ∨ j = 0) →
  AtL B a (codF P n q a l ++ j :: W) → lfF B P d false a = (l, a + lenF n l, false)
theorem casF_at {n : Nat} (hP : P.length < 65536) (ih : LfAt B P n) {k : Int} {h : Bool} (q : InP) (zz d a0 : Nat) (hq : h = true → q.1 ∈ P) : ∀ (cs : List CT) (ks : List ByteArray) (i a : Nat) (acc : List CT) (X W : List UInt8),
    caseR (fun m => rightF n m h) k ks cs = true → (∀ t ∈ caseT (textF n) cs, t ∈ P) → (∀ c ∈ cs, depthF n c.2 ≤ d) → a + lenC (lenF n) cs < 4294967296 → bulkC (bulkF n) cs ≤ 60000 →
    AtL B (a0 + 9 + 6 * i) (headC P (lenF n) a cs ++ X) → AtL B a (bodyC (codF P n q) (lenF n) zz a cs ++ W) → casF B P (lfF B P d) a0 cs.length i a acc false = (acc ++ cs, a + lenC (lenF n) cs, false)
  | [], ks, i, a, acc, X, W, _, _, _, _, _, _, _ => by simp [casF, lenC]
  | c :: cs, ks, i, a, acc, X, W, hr, ht, hd, ha, hb, hH, hA => by
    simp only [caseR, Bool.and_eq_true] at hr
    simp only [caseT, List.mem_cons, List.mem_append] at ht
    simp only [lenC] at ha
    simp only [bulkC] at hb
    simp only [headC, List.append_assoc] at hH
    simp only [bodyC, List.append_assoc, List.cons_append, List.nil_append] at hA
    have h1 := txL_at false hH (ht c.1 (.inl rfl)) hP
    have h2 := hH.m16
    have h3 := nmL_32 h2 (by omega)
    have h4 := h2.m32
    have h5 := ih c.2 h q a d 7 _ hr.1.2 (fun t hx => ht t (.inr (.inl hx))) hq (hd c (List.mem_cons_self ..)) (by omega) (by omega) (.inl rfl) hA
    have hA2 := hA.move
    rw [codF_len] at hA2
    have h6 := nmL_1 hA2
    have hA3 := hA2.m1.m32
    have e1 : a + lenF n c.2 + 1 + 4 = a + lenF n c.2 + 5 := by omega
    have e2 : a0 + 9 + 6 * i + 2 + 4 = a0 + 9 + 6 * (i + 1) := by omega
    have e3 : a0 + 11 + 6 * i = a0 + 9 + 6 * i + 2 := by omega
    rw [e1] at hA3
    rw [e2] at h4
    have h7 := casF_at hP ih q zz d a0 hq cs _ (i + 1) (a + lenF n c.2 + 5) (acc ++ [(c.1, c.2)]) X W hr.2 (fun t hx => ht t (.inr (.inr hx))) (fun x hx => hd x (List.mem_cons_of_mem _ hx)) (by omega) (by omega) h4 hA3
    rw [List.length_cons]
    unfold casF
    rw [if_neg (by decide), e3, h1]
    simp only
    rw [h3, if_neg (by simp)]
    simp only
    rw [h5]
    simp only
    rw [h6, if_neg (by simp)]
    simp only
    rw [h7]
    simp only [List.append_assoc, List.cons_append, List.nil_append, lenC]
    rw [show a + lenF n c.2 + 5 + lenC (lenF n) cs = a + (lenF n c.2 + 5 + lenC (lenF n) cs) by omega]
theorem ptF_at {n : Nat} (hP : P.length < 65536) (ih : LfAt B P n) {h : Bool} (q : InP) (hq : h = true → q.1 ∈ P) (d : Nat) (M : Bool → Nat → List PT × Nat × Bool) (hM : d ≠ 0 → M = lfF B P (d - 1)) (j : UInt8) (hj : j = 7 ∨ j = 0) : ∀ (l : List PT) (kk : Int) (a f : Nat) (acc : List PT) (W : List UInt8),
    rightL (rightF n) h kk l = true → (∀ t ∈ textL (textF n) l, t ∈ P) → (∀ p ∈ l, ∀ c ∈ casesP p, 1 + depthF n c.2 ≤ d) → a + lenL (lenF n) l < 4294967296 → bulkL (bulkF n) l ≤ 60000 → l.length < f →
    AtL B a (codL P (codF P n) (lenF n) q a l ++ j :: W) → ptF B P (chF B P M d) f false a acc = (acc ++ l, a + lenL (lenF n) l, false)
  | [], kk, a, 0, acc, W, _, _, _, _, _, hf, _ => absurd hf (by omega)
  | _ :: _, kk, a, 0, acc, W, _, _, _, _, _, hf, _ => absurd hf (by omega)
  | [], kk, a, f + 1, acc, W, _, _, _, _, _, _, hA => by
    simp only [codL, List.nil_append] at hA
    have h1 := nmL_1 hA
    have hj' : (j.toNat = 7 ∨ j.toNat = 0) := by rcases hj with rfl | rfl <;> decide
    unfold ptF
    rw [h1]
    simp only
    rw [if_neg (by decide), if_neg (by omega), if_neg (by omega), if_neg (by omega), if_neg (by omega), if_pos hj']
    simp [lenL]
  | p :: l, kk, a, f + 1, acc, W, hr, ht, hd, ha, hb, hf, hA => by
    simp only [rightL, Bool.and_eq_true] at hr
    obtain ⟨⟨⟨⟨hp, _⟩, hcs⟩, _⟩, hrl⟩ := hr
    simp only [textL, List.mem_append] at ht
    simp only [lenL] at ha
    simp only [bulkL] at hb
    simp only [codL, List.append_assoc] at hA
    have hA2 := hA.move
    rw [codP_len (codF_len P n)] at hA2
    have ih2 := fun acc' => ptF_at hP ih q hq d M hM j hj l p.k (a + lenP (lenF n) p) f acc' W hrl (fun t hx => ht t (.inr hx)) (fun x hx => hd x (List.mem_cons_of_mem _ hx)) (by omega) (by omega) (by simp only [List.length_cons] at hf; omega) hA2
    have hpt : ∀ t ∈ partT (textF n) p, t ∈ P := fun t hx => ht t (.inl hx)
    have hdp := hd p (List.mem_cons_self ..)
    clear hA2 ht hrl hd
    have fin : ptF B P (chF B P M d) (f + 1) false a acc = ptF B P (chF B P M d) f false (a + lenP (lenF n) p) (acc ++ [p]) → ptF B P (chF B P M d) (f + 1) false a acc = (acc ++ p :: l, a + lenL (lenF n) (p :: l), false) := fun e => by
      rw [e, ih2, lenL]
      simp only [List.append_assoc, List.cons_append, List.nil_append]
      rw [show a + lenP (lenF n) p + lenL (lenF n) l = a + (lenP (lenF n) p + lenL (lenF n) l) by omega]
    refine fin ?_
    clear fin ih2
    unfold codP at hA
    unfold partT at hpt
    unfold lenP at ha ⊢
    by_cases h1 : p.k = 1
    · rw [if_pos h1] at hA hpt ⊢
      simp only [List.cons_append] at hA
      have hk := nmL_1 hA
      have ht1 := txL_at false hA.m1 (hpt _ (by simp)) hP
      rw [ptF, hk]
      simp only
      rw [if_neg (by decide), if_pos (by decide), ht1, ← plain_t1 hp h1]
    · rw [if_neg h1] at hA hpt ha ⊢
      by_cases h2 : p.k = 2
      · have hh := (plain_t2 hp h2).2
        rw [if_pos h2] at hA ⊢
        simp only [List.cons_append, List.append_assoc] at hA
        have hk := nmL_1 hA
        have ht1 := txL_at false hA.m1 (hq hh) hP
        rw [ptF, hk]
        simp only
        rw [if_neg (by decide), if_neg (by decide), if_pos (by decide), ht1, ← (plain_t2 hp h2).1]
      · rw [if_neg h2] at hA hpt ha ⊢
        by_cases h3 : p.k = 3
        · rw [if_pos h3] at hA hpt ⊢
          simp only [List.cons_append, List.append_assoc] at hA
          have hk := nmL_1 hA
          have ht1 := txL_at false hA.m1 (hpt _ (by simp)) hP
          have ht2 := txL_opt hA.m1.m16 (fun hn => hpt _ (by simp [optT, hn])) hP
          have ht3 := txL_opt hA.m1.m16.m16 (fun hn => hpt _ (by simp [optT, hn])) hP
          rw [ptF, hk]
          simp only
          rw [if_neg (by decide), if_neg (by decide), if_neg (by decide), if_pos (by decide), ht1]
          simp only [Nat.add_assoc] at ht2 ht3 ⊢
          rw [ht2]
          simp only
          rw [ht3, ← plain_t3 hp h3]
        · rw [if_neg h3] at hA hpt ha ⊢
          have h4 : p.k = 4 ∨ p.k = 5 ∨ p.k = 6 := by
            rcases plain_k hp with h | h | h | h
            · exact absurd h h1
            · exact absurd h h2
            · exact absurd h h3
            · exact h
          obtain ⟨hpe, hf0, hf1⟩ := plain_t4 hp h4
          have hcp : casesP p = p.cs := by unfold casesP; rw [if_neg (by omega)]
          rw [hcp] at hdp
          have hne : p.cs ≠ [] := by
            unfold plainB at hp
            rw [if_neg h1, if_neg h2, if_neg h3, if_pos h4] at hp
            simp only [Bool.and_eq_true, Bool.not_eq_true', decide_eq_false_iff_not] at hp
            obtain ⟨⟨⟨⟨⟨⟨⟨_, _⟩, _⟩, a4⟩, _⟩, _⟩, _⟩, _⟩ := hp
            exact fun e => a4 (by rw [e]; rfl)
          have hn0 : d ≠ 0 := fun e => by
            obtain ⟨c, cs, hc⟩ := List.exists_cons_of_ne_nil hne
            have := hdp c (by rw [hc]; exact List.mem_cons_self ..)
            omega
          simp only [List.cons_append, List.append_assoc] at hA
          have hcl := bulkC_len (bulkF n) p.cs
          have hc0 : p.cs.length ≠ 0 := fun e => hne (List.eq_nil_of_length_eq_zero e)
          have hk := nmL_1 hA
          have hkn : (UInt8.ofNat p.k.toNat).toNat = p.k.toNat := by rcases h4 with h | h | h <;> rw [h] <;> rfl
          rw [hkn] at hk
          have ht1 := txL_at false hA.m1 (hpt _ (by simp)) hP
          have ht2 := nmL_32 hA.m1.m16 (by omega)
          have ht3 := nmL_16 hA.m1.m16.m32 (by omega)
          have hA5 := hA.m1.m16.m32.m16
          have hA6 := hA5.move
          rw [headC_len] at hA6
          have el : lenP (lenF n) p = 9 + 6 * p.cs.length + lenC (lenF n) p.cs := by unfold lenP; rw [if_neg h1, if_neg h2, if_neg h3]
          have hlen : ¬ B.length < a + 9 + 6 * p.cs.length := fun hc => by
            have h9 := congrArg List.length (show B.drop (a + 1 + 2 + 4 + 2 + 6 * p.cs.length) = _ from hA6)
            rw [List.length_drop, List.length_append, List.length_append, List.length_cons] at h9
            omega
          have hq' : (decide (p.k ≠ 4) = true → (inQ q p).1 ∈ P) := fun hd => by
            unfold inQ
            rw [if_neg (by simpa using hd)]
            exact hpt _ (by simp)
          have e5 : a + 1 + 2 + 4 + 2 = a + 9 + 6 * 0 := by omega
          have e6 : a + 9 + 6 * 0 + 6 * p.cs.length = a + 9 + 6 * p.cs.length := by omega
          rw [e5] at hA5 hA6
          rw [e6] at hA6
          have hC := casF_at hP ih (h := decide (p.k ≠ 4)) (inQ q p) (a + lenP (lenF n) p) (d - 1) a hq' p.cs [] 0 (a + 9 + 6 * p.cs.length) [] _ _ hcs (fun t hx => hpt t (List.mem_cons_of_mem _ hx)) (fun c hc => by have := hdp c hc; omega) (by omega) (by omega) hA5 hA6
          rw [ptF, hk]
          simp only
          rw [if_neg (by decide), if_neg (by omega), if_neg (by omega), if_neg (by omega), if_pos (by omega)]
          have hch : chF B P M d false a = (p, a + (9 + 6 * p.cs.length + lenC (lenF n) p.cs), false) := by
            unfold chF
            rw [hk]
            simp only
            rw [ht1]
            simp only
            rw [show a + 3 = a + 1 + 2 by omega, ht2]
            simp only
            rw [show a + 7 = a + 1 + 2 + 4 by omega, ht3]
            simp only
            rw [if_neg (by rw [not_or, not_or, not_or]; exact ⟨by decide, hn0, hc0, hlen⟩), hM hn0, hC]
            simp only [List.nil_append]
            rw [show ((p.k.toNat : Nat) : Int) = p.k by omega, show ((p.off.toNat : Nat) : Int) = p.off by omega, ← hpe, show a + 9 + 6 * p.cs.length + lenC (lenF n) p.cs = a + (9 + 6 * p.cs.length + lenC (lenF n) p.cs) by omega]
          rw [hch]
theorem lenL_ge {L : List PT → Nat} : ∀ l : List PT, l.length ≤ lenL L l
  | [] => Nat.le_refl _
  | p :: l => by
    have h1 := lenL_ge (L := L) l
    have h2 : 1 ≤ lenP L p := by
      unfold lenP
      split
      · omega
      · split
        · omega
        · split <;> omega
    simp only [lenL, List.length_cons]
    omega
theorem lf_at (hP : P.length < 65536) : ∀ n, LfAt B P n
  | 0 => fun _ _ _ _ _ _ _ h => by cases h
  | n + 1 => fun l h q a d j W hr ht hq hd ha hb hj hA => by
    have hlen : l.length < B.length + 11 := by
      have h1 := lenL_ge (L := lenF n) l
      have h2 := congrArg List.length (show B.drop a = _ from hA)
      rw [List.length_drop, List.length_append, codF_len] at h2
      have h3 : lenF (n + 1) l = lenL (lenF n) l := rfl
      omega
    have hdd := (mostL_le1 l 0 d hd).2
    cases d with
    | zero =>
      have := ptF_at hP (lf_at hP n) q hq 0 (fun _ _ => ([], 0, true)) (fun h => absurd rfl h) j hj l 0 a (B.length + 11) [] W hr ht hdd ha hb hlen hA
      rw [List.nil_append] at this
      exact this
    | succ d =>
      have := ptF_at hP (lf_at hP n) q hq (d + 1) (lfF B P d) (fun _ => rfl) j hj l 0 a (B.length + 11) [] W hr ht hdd ha hb hlen hA
      rw [List.nil_append] at this
      exact this
end

/-! ### how much there is in what is read -/
section
variable {B : List UInt8} {T : List ByteArray} {S : Nat}
theorem nmL_good {bad : Bool} {a n : Nat} (h : (nmL B bad a n).2 = false) : bad = false ∧ a + n ≤ B.length := by
  unfold nmL at h
  split at h
  · cases h
  · rename_i hn
    rw [not_or] at hn
    exact ⟨by simpa using hn.1, by omega⟩
theorem txL_good {bad : Bool} {a : Nat} {m : Bool} (h : (txL B T bad a m).2 = false) : bad = false ∧ a + 2 ≤ B.length := by
  unfold txL at h
  split at h
  · exact nmL_good h
  · split at h
    · cases h
    · rename_i hn
      rw [not_or] at hn
      exact nmL_good (by simpa using hn.1)
theorem txL_size (hT : ∀ t ∈ T, t.size ≤ S) (bad : Bool) (a : Nat) (m : Bool) : (txL B T bad a m).1.size ≤ S := by
  unfold txL
  split
  · exact Nat.zero_le _
  · split
    · exact Nat.zero_le _
    · show (T.getD (nmL B bad a 2).1 ⟨#[]⟩).size ≤ S
      rw [List.getD_eq_getElem?_getD]
      cases hg : T[(nmL B bad a 2).1]? with
      | none => exact Nat.zero_le _
      | some t => exact hT t (List.mem_of_getElem? hg)
theorem bulkC_app2 (D : List PT → Nat) : ∀ a b : List CT, bulkC D (a ++ b) = bulkC D a + bulkC D b
  | [], b => by simp [bulkC]
  | c :: a, b => by simp only [List.cons_append, bulkC, bulkC_app2 D a b]; omega
theorem bulkL_app2 (D : List PT → Nat) : ∀ a b : List PT, bulkL D (a ++ b) = bulkL D a + bulkL D b
  | [], b => by simp [bulkL]
  | p :: a, b => by simp only [List.cons_append, bulkL, bulkL_app2 D a b]; omega
theorem casF_bulk (hT : ∀ t ∈ T, t.size ≤ S) {D : List PT → Nat} {M : Bool → Nat → List PT × Nat × Bool} (hM : ∀ bad a l e, M bad a = (l, e, false) → a ≤ e ∧ D l ≤ (e - a) * (1 + 3 * S)) (a : Nat) : ∀ (m i nx : Nat) (acc : List CT) (bad : Bool) (cs : List CT) (e : Nat), casF B T M a m i nx acc bad = (cs, e, false) →
    nx ≤ e ∧ bulkC D cs ≤ bulkC D acc + (e - nx) * (1 + 3 * S)
  | 0, i, nx, acc, bad, cs, e, h => by
    simp only [casF, Prod.mk.injEq] at h
    obtain ⟨rfl, rfl, _⟩ := h
    simp
  | m + 1, i, nx, acc, bad, cs, e, h => by
    unfold casF at h
    split at h
    · simp at h
    · split at h
      · simp at h
      · rename_i hb hx
        simp only at h
        generalize hl : M (nmL B (txL B T false (a + 9 + 6 * i) false).2 (a + 11 + 6 * i) 4).2 nx = l at h
        obtain ⟨l, e1, b1⟩ := l
        simp only at h
        obtain ⟨h1, h2⟩ := casF_bulk hT hM a m (i + 1) (e1 + 5) _ _ cs e h
        have hbf : (if (nmL B b1 e1 1).1 ≠ 7 then true else (nmL B b1 e1 1).2) = false := by
          generalize hq : (if (nmL B b1 e1 1).1 ≠ 7 then true else (nmL B b1 e1 1).2) = q at h
          cases q with
          | false => rfl
          | true =>
            cases m with
            | zero => simp [casF] at h
            | succ m => simp [casF] at h
        split at hbf
        · cases hbf
        · obtain ⟨rfl, _⟩ := nmL_good hbf
          obtain ⟨h3, h4⟩ := hM _ _ _ _ hl
          have h5 := txL_size (B := B) hT false (a + 9 + 6 * i) false
          refine ⟨by omega, ?_⟩
          rw [bulkC_app2] at h2
          simp only [bulkC] at h2
          have e2 : e - nx = (e - (e1 + 5)) + ((e1 - nx) + 5) := by omega
          rw [e2, Nat.add_mul, Nat.add_mul]
          omega
theorem chF_bulk (hT : ∀ t ∈ T, t.size ≤ S) {D : List PT → Nat} {M : Bool → Nat → List PT × Nat × Bool} (hM : ∀ bad a l e, M bad a = (l, e, false) → a ≤ e ∧ D l ≤ (e - a) * (1 + 3 * S)) (d : Nat) (bad : Bool) (a : Nat) (p : PT) (e : Nat) (h : chF B T M d bad a = (p, e, false)) :
    a ≤ e ∧ 1 + p.tx.size + p.nm.size + p.ty.size + p.st.size + bulkC D p.cs ≤ (e - a) * (1 + 3 * S) := by
  unfold chF at h
  simp only at h
  split at h
  · simp at h
  · rename_i hn
    simp only [Prod.mk.injEq] at h
    obtain ⟨hp, he, hb⟩ := h
    obtain ⟨h1, h2⟩ := casF_bulk hT hM a _ _ _ _ _ _ e (Prod.ext rfl (Prod.ext he hb))
    have h5 := txL_size (B := B) hT (nmL B bad a 1).2 (a + 1) false
    subst hp
    refine ⟨by omega, ?_⟩
    simp only [bulkC, Nat.zero_add] at h2 ⊢
    generalize hcc : bulkC D _ = z at h2 ⊢
    generalize (nmL B (nmL B (txL B T (nmL B bad a 1).2 (a + 1) false).2 (a + 3) 4).2 (a + 7) 2).1 = m at *
    have e0 : (⟨#[]⟩ : ByteArray).size = 0 := rfl
    have e2 : e - a = (e - (a + 9 + 6 * m)) + (9 + 6 * m) := by omega
    rw [e2, Nat.add_mul, e0]
    have h6 : 9 * (1 + 3 * S) ≤ (9 + 6 * m) * (1 + 3 * S) := Nat.mul_le_mul_right _ (by omega)
    omega
theorem ptF_bulk (hT : ∀ t ∈ T, t.size ≤ S) {D : List PT → Nat} {C : Bool → Nat → PT × Nat × Bool} (hC : ∀ bad a p e, C bad a = (p, e, false) → a ≤ e ∧ 1 + p.tx.size + p.nm.size + p.ty.size + p.st.size + bulkC D p.cs ≤ (e - a) * (1 + 3 * S)) : ∀ (f : Nat) (bad : Bool) (a : Nat) (acc l : List PT) (e : Nat), ptF B T C f bad a acc = (l, e, false) →
    a ≤ e ∧ bulkL D l ≤ bulkL D acc + (e - a) * (1 + 3 * S)
  | 0, _, _, _, _, _, h => by simp [ptF] at h
  | f + 1, bad, a, acc, l, e, h => by
    have e0 : (⟨#[]⟩ : ByteArray).size = 0 := rfl
    have step : ∀ (p : PT) (b1 : Bool) (a1 : Nat), (a ≤ a1 ∧ 1 + p.tx.size + p.nm.size + p.ty.size + p.st.size + bulkC D p.cs ≤ (a1 - a) * (1 + 3 * S)) → ptF B T C f b1 a1 (acc ++ [p]) = (l, e, false) → a ≤ e ∧ bulkL D l ≤ bulkL D acc + (e - a) * (1 + 3 * S) := fun p b1 a1 ⟨ha, hp⟩ h => by
      obtain ⟨h1, h2⟩ := ptF_bulk hT hC f b1 a1 _ l e h
      rw [bulkL_app2] at h2
      simp only [bulkL] at h2
      have e2 : e - a = (e - a1) + (a1 - a) := by omega
      refine ⟨by omega, ?_⟩
      rw [e2, Nat.add_mul]
      omega
    unfold ptF at h
    split at h
    · simp at h
    · split at h
      · refine step _ _ _ ⟨by omega, ?_⟩ h
        have h5 := txL_size (B := B) hT (nmL B false a 1).2 (a + 1) false
        rw [show a + 3 - a = 3 by omega]
        simp only [textP, bulkC, e0]
        omega
      · split at h
        · refine step _ _ _ ⟨by omega, ?_⟩ h
          rw [show a + 7 - a = 7 by omega]
          simp only [hashP, bulkC, e0]
          omega
        · split at h
          · simp only at h
            refine step _ _ _ ⟨by omega, ?_⟩ h
            rw [show a + 7 - a = 7 by omega]
            simp only [bulkC, e0]
            have h5 := txL_size (B := B) hT (nmL B false a 1).2 (a + 1) false
            have h6 := txL_size (B := B) hT (txL B T (nmL B false a 1).2 (a + 1) false).2 (a + 3) true
            have h7 := txL_size (B := B) hT (txL B T (txL B T (nmL B false a 1).2 (a + 1) false).2 (a + 3) true).2 (a + 5) true
            omega
          · split at h
            · simp only at h
              generalize hc : C (nmL B false a 1).2 a = c at h
              obtain ⟨p, a1, b1⟩ := c
              simp only at h
              cases b1 with
              | true =>
                exfalso
                cases f with
                | zero => simp [ptF] at h
                | succ f => simp [ptF] at h
              | false => exact step _ _ _ (hC _ _ _ _ hc) h
            · split at h
              · simp only [Prod.mk.injEq] at h
                obtain ⟨rfl, rfl, _⟩ := h
                simp
              · simp at h
theorem lf_bulk (hT : ∀ t ∈ T, t.size ≤ S) : ∀ (d : Nat) (bad : Bool) (a : Nat) (l : List PT) (e : Nat), lfF B T d bad a = (l, e, false) → a ≤ e ∧ bulkF (d + 1) l ≤ (e - a) * (1 + 3 * S)
  | 0, bad, a, l, e, h => by
    have := ptF_bulk hT (D := bulkF 0) (chF_bulk hT (fun _ _ _ _ h => by simp at h) 0) _ _ _ _ _ _ h
    simpa [bulkL, bulkF] using this
  | d + 1, bad, a, l, e, h => by
    have := ptF_bulk hT (D := bulkF (d + 1)) (chF_bulk hT (lf_bulk hT d) (d + 1)) _ _ _ _ _ _ h
    simpa [bulkL, bulkF] using this
end

/-! ### the whole -/
/-- The texts. -/
def poolL (b : List UInt8) : Nat → Nat → List ByteArray → Option (List ByteArray × Nat)
  | 0, a, acc => some (acc, a)
  | n + 1, a, acc => if (nmL b false a 2).2 = true ∨ b.length < a + 2 + (nmL b false a 2).1 then none else poolL b n (a + 2 + (nmL b false a 2).1) (acc ++ [⟨((b.drop (a + 2)).take (nmL b false a 2).1).toArray⟩])
/-- What Lift tells. -/
def liftR (b : List UInt8) : List PT × Bool :=
  if (nmL b false 0 2).2 = true then ([], false) else
  match poolL b (nmL b false 0 2).1 2 [] with
  | none => ([], false)
  | some (T, a) => if (nmL b false a 4).2 = true ∨ a + 4 + (nmL b false a 4).1 ≠ b.length then ([], false) else
    let x := lfF (b.drop (a + 4)) T 9 false 0
    (x.1, !x.2.2 && (decide (x.2.1 + 1 = (nmL b false a 4).1) && decide ((nmL (b.drop (a + 4)) x.2.2 x.2.1 1).1 = 0)))
theorem poolL_at {b W : List UInt8} : ∀ (P acc : List ByteArray) (a : Nat), (∀ s ∈ P, s.size < 65536) → AtL b a (tabT P ++ W) → poolL b P.length a acc = some (acc ++ P, a + (tabT P).length)
  | [], acc, a, _, _ => by simp [poolL, tabT]
  | s :: P, acc, a, hs, h => by
    have hz := hs s (List.mem_cons_self ..)
    have hl : s.data.toList.length = s.size := by simp
    simp only [tabT, List.append_assoc] at h
    have h1 := nmL_16 h hz
    have h2 := h.m16
    have h4 := h2.move
    rw [hl] at h4
    have h9 := congrArg List.length (show b.drop (a + 2) = _ from h2)
    rw [List.length_drop, List.length_append, hl] at h9
    have ih := poolL_at P (acc ++ [s]) _ (fun x hx => hs x (List.mem_cons_of_mem _ hx)) h4
    have h10 : (b.drop (a + 2)).take s.size = s.data.toList := by
      rw [show b.drop (a + 2) = _ from h2, ← hl, List.take_left' rfl]
    have h11 : a + 2 ≤ b.length := by
      have := congrArg List.length (show b.drop a = _ from h)
      rw [List.length_drop, List.length_append, w16_len] at this
      omega
    rw [List.length_cons]
    unfold poolL
    rw [h1]
    simp only
    rw [if_neg (by simp; omega), h10, Array.toArray_toList]
    rw [ih]
    simp only [tabT, List.append_assoc, List.cons_append, List.nil_append, List.length_append, w16_len, hl]
    rw [show a + (2 + (s.size + (tabT P).length)) = a + 2 + s.size + (tabT P).length by omega]
theorem poolL_size {b : List UInt8} : ∀ (n a : Nat) (acc T : List ByteArray) (e : Nat), (∀ t ∈ acc, t.size ≤ b.length) → poolL b n a acc = some (T, e) → ∀ t ∈ T, t.size ≤ b.length
  | 0, a, acc, T, e, hs, h => by
    simp only [poolL, Option.some.injEq, Prod.mk.injEq] at h
    rw [← h.1]; exact hs
  | n + 1, a, acc, T, e, hs, h => by
    unfold poolL at h
    split at h
    · cases h
    · refine poolL_size n _ _ T e (fun t ht => ?_) h
      rcases List.mem_append.1 ht with ht | ht
      · exact hs t ht
      · rw [List.mem_singleton] at ht
        subst ht
        show (List.toArray _).size ≤ _
        rw [List.size_toArray, List.length_take, List.length_drop]
        omega
theorem liftR_bulk {b : List UInt8} {l : List PT} (hb : b.length ≤ 4000) (h : liftR b = (l, true)) : bulkF 10 l ≤ 900000000 := by
  unfold liftR at h
  split at h
  · simp at h
  · cases hp : poolL b (nmL b false 0 2).1 2 [] with
    | none => rw [hp] at h; simp at h
    | some x =>
      obtain ⟨T, a⟩ := x
      rw [hp] at h
      simp only at h
      split at h
      · simp at h
      · have hT := poolL_size _ _ _ _ _ (fun t ht => by cases ht) hp
        generalize hx : lfF (b.drop (a + 4)) T 9 false 0 = x at h
        obtain ⟨m, e, b1⟩ := x
        simp only [Prod.mk.injEq, Bool.and_eq_true, Bool.not_eq_true', decide_eq_true_iff] at h
        obtain ⟨rfl, rfl, h2, h3⟩ := h
        obtain ⟨-, h5⟩ := lf_bulk hT 9 false 0 m e hx
        rename_i hn
        rw [not_or] at hn
        have he : e ≤ 4000 := by omega
        have h6 : (e - 0) * (1 + 3 * b.length) ≤ 4000 * (1 + 3 * 4000) := Nat.mul_le_mul (by omega) (by omega)
        exact Nat.le_trans h5 (Nat.le_trans h6 (by decide))
theorem liftR_code {n : Nat} {l : List PT} (hr : rightF n l false = true) (hb : bulkF n l ≤ 60000) (hd : depthF n l ≤ 8) : liftR (codeF n l) = (l, true) := by
  have hP : (poolF (textF n l)).length ≤ 60000 := Nat.le_trans (pool_len _) (Nat.le_trans (textF_bulk n l) hb)
  have hps : ∀ s ∈ poolF (textF n l), s.size < 65536 := fun s hs => by
    have := textF_size n l s (pool_mem.1 hs)
    omega
  have hL := lenF_bulk n l
  have hpm : ∀ t ∈ textF n l, t ∈ poolF (textF n l) := fun t ht => pool_mem.2 ht
  obtain ⟨b, hbb⟩ : ∃ b, codeF n l = b := ⟨_, rfl⟩
  have hA : AtL b 0 (w16 (poolF (textF n l)).length ++ (tabT (poolF (textF n l)) ++ (w32 (lenF n l + 1) ++ (codF (poolF (textF n l)) n q0 0 l ++ [0])))) := by
    unfold AtL
    rw [List.drop_zero, ← hbb]
    simp only [codeF, List.append_assoc, q0]
  rw [hbb]
  clear hbb
  generalize poolF (textF n l) = P at *
  have h1 := nmL_16 hA (by omega)
  have hA1 := hA.m16
  have h2 := poolL_at P [] _ hps hA1
  rw [List.nil_append] at h2
  have hA2 := hA1.move
  have h3 := nmL_32 hA2 (by omega)
  have hA3 := hA2.m32
  have hz : b.length = 0 + 2 + (tabT P).length + 4 + (lenF n l + 1) := by
    have h9 := congrArg List.length (show b.drop 0 = _ from hA)
    simp only [List.length_drop, List.length_append, w16_len, w32_len, codF_len, List.length_cons, List.length_nil] at h9
    omega
  have hB : AtL (b.drop (0 + 2 + (tabT P).length + 4)) 0 (codF P n q0 0 l ++ 0 :: []) := by
    unfold AtL
    rw [List.drop_zero]
    exact hA3
  have h4 := lf_at (B := b.drop (0 + 2 + (tabT P).length + 4)) (by omega) n l false q0 0 9 0 [] hr hpm (fun h => by cases h) (by omega) (by omega) hb (.inr rfl) hB
  have h5 := hB.move
  rw [codF_len] at h5
  have h6 := nmL_1 h5
  unfold liftR
  rw [h1]
  simp only
  rw [if_neg (by decide)]
  rw [show (2 : Nat) = 0 + 2 from rfl, h2]
  simp only
  rw [h3]
  simp only
  rw [if_neg (by rw [not_or]; exact ⟨by decide, by omega⟩), h4]
  simp only
  rw [h6]
  simp
end Go.Proofs.YtmfoiceofhcicaaGreatDoor

namespace Go.Proofs.YtmfoiceofhcicaaGreatDoor
open Go.RowKit Go.IntWalk

/-- The lifter: its texts, its bytes, its fault. -/
def LfW (w : World) (g : Nat) (tv bv : Value) (T : List ByteArray) (B : List UInt8) (bad : Bool) : Prop :=
  Blk w g 94 #[tv, bv, .bool bad] ∧ RdC (fun x => x ≠ g) w tv T.length (T.map Value.string) ∧ RdC (fun x => x ≠ g) w bv B.length (B.map cellU)
theorem LfW.to {w w' : World} {g : Nat} {tv bv : Value} {T : List ByteArray} {B : List UInt8} {bad : Bool} (h : LfW w g tv bv T B bad) (hk : Keep [] w w') : LfW w' g tv bv T B bad :=
  ⟨h.1.keep hk (by simp), h.2.1.keep hk (by simp), h.2.2.keep hk (by simp)⟩
theorem LfW.set {w : World} {g : Nat} {tv bv : Value} {T : List ByteArray} {B : List UInt8} {bad : Bool} (h : LfW w g tv bv T B bad) (x : Bool) : LfW (w.setCell ⟨g, 2, none⟩ (.bool x)) g tv bv T B x ∧ Keep [g] w (w.setCell ⟨g, 2, none⟩ (.bool x)) := by
  have hk : Keep [g] w (w.setCell ⟨g, 2, none⟩ (.bool x)) := (Keep.refl _ _).setCell (.inl (by simp)) _
  exact ⟨⟨by simpa using Blk.set_ h.1 2 (.bool x), h.2.1.keep hk (by simp), h.2.2.keep hk (by simp)⟩, hk⟩
theorem leN_lt : ∀ l : List UInt8, leN l < 256 ^ l.length
  | [] => by simp [leN]
  | b :: r => by
    have := leN_lt r
    have hb := b.toNat_lt
    simp only [leN, List.length_cons, Nat.pow_succ]
    omega
theorem or_i64 (x c : Nat) (hx : x < 1099511627776) (hc : c < 256) : bits BinOp.or IntKind.i64 ((x : Int) * 256) (wrap64 (c : Int)) = ((c + 256 * x : Nat) : Int) := by
  have hor := Nat.shiftLeft_add_eq_or_of_lt (i := 8) (show c < 2 ^ 8 from hc) x
  rw [Nat.shiftLeft_eq] at hor
  rw [show (x : Int) * 256 = ((x * 256 : Nat) : Int) by omega, show wrap64 (c : Int) = (c : Int) by unfold wrap64; omega]
  show IntKind.i64.wrap ((BitVec.ofInt 64 ((x * 256 : Nat) : Int) ||| BitVec.ofInt 64 (c : Int)).toNat : Int) = _
  rw [BitVec.toNat_or, BitVec.ofInt_natCast, BitVec.ofInt_natCast, BitVec.toNat_ofNat, BitVec.toNat_ofNat, Nat.mod_eq_of_lt (by omega), Nat.mod_eq_of_lt (by omega), show x * 256 = x * 2 ^ 8 from rfl, ← hor, IntKind.wrap_i64]
  omega
theorem leN_drop {l : List UInt8} {j : Nat} {y : UInt8} (hy : l[j]? = some y) : leN (l.drop j) = y.toNat + 256 * leN (l.drop (j + 1)) := by
  rw [drop_some hy]
  rfl
set_option maxRecDepth 100000 in
set_option maxHeartbeats 4000000 in
theorem num20_any (w : World) (g : Nat) (tv bv : Value) (T : List ByteArray) (B : List UInt8) (bad : Bool) (a n : Nat) (h : LfW w g tv bv T B bad) (hn : 1 ≤ n ∧ n ≤ 4) (ha : a ≤ 10000000) (hBl : B.length ≤ 1000000) :
    Calls Tryz.prog 44 #[.pointer (some ⟨g, 0, none⟩), .int .i64 a, .int .i64 n] w fun e w' => e = .returned (.int .i64 ((nmL B bad a n).1 : Nat)) ∧ LfW w' g tv bv T B (nmL B bad a n).2 ∧ Keep [g] w w' := by
  have c2 : w.cell? ⟨g, 2, none⟩ = some (.bool bad) := h.1.cell_eq rfl
  have f2 : w.frozen? ⟨g, 2, none⟩ = false := h.1.frozen 2
  have ha0 : ((a : Int) < 0) = False := by simp
  have HSET := Lib.hid (h.set true)
  have HH := Lib.hid h
  cases bad with
  | true =>
    have hx : nmL B true a n = (0, true) := by unfold nmL; rw [if_pos (.inl rfl)]
    rw [hx]
    clear h
    go_enter Tryz.func44, Tryz.ntmps44
    go_wp2
    go_ret
    exact ⟨rfl, HSET.out.1, HSET.out.2⟩
  | false =>
    have c1 : w.cell? ⟨g, 1, none⟩ = some bv := h.1.cell_eq rfl
    obtain ⟨A, cap, rfl, hl1, hl2, hat⟩ := h.2.2
    by_cases hlt : B.length < a + n
    · have hx : nmL B false a n = (0, true) := by unfold nmL; rw [if_pos (.inr hlt)]
      rw [hx]
      have hi : (B.length : Int) < (a : Int) + (n : Int) := by omega
      clear h hat hlt
      go_enter Tryz.func44, Tryz.ntmps44
      go_wp2
      go_ret
      exact ⟨rfl, HSET.out.1, HSET.out.2⟩
    · have hx : nmL B false a n = (leN ((B.drop a).take n), false) := by unfold nmL; rw [if_neg (by rw [not_or]; exact ⟨by decide, hlt⟩)]
      rw [hx]
      obtain ⟨b, o, rfl, hbg, hbl, hcells⟩ := hat (by omega)
      have hi : ¬ (B.length : Int) < (a : Int) + (n : Int) := by omega
      have hsl : ((B.drop a).take n).length = n := by rw [List.length_take, List.length_drop]; omega
      have hget : ∀ j, j < n → ((B.drop a).take n)[j]? = B[a + j]? := fun j hj => by rw [List.getElem?_take_of_lt hj, List.getElem?_drop]
      generalize (B.drop a).take n = X at *
      have HC := Lib.hid hcells
      have HG := Lib.hid hget
      clear h hcells hget hat hx
      go_enter Tryz.func44, Tryz.ntmps44
      go_wp2
      go_loopw [7, 8] (fun x i wr => ∃ j : Nat, j ≤ n ∧ i = .int .i64 ((j : Int) - 1) ∧ x = .int .i64 (leN (X.drop j) : Nat) ∧ wr = w) (fun _ i _ => (intOf i + 1).toNat)
      case atStart => exact ⟨n, Nat.le_refl _, by go_num, by rw [List.drop_of_length_le (by omega)]; rfl, rfl⟩
      case round =>
        obtain ⟨j, hj, rfl, rfl, rfl⟩ := hrel
        cases j with
        | zero =>
          go_wp2
          go_ret
          exact ⟨rfl, HH.out, Keep.refl _ _⟩
        | succ j =>
          obtain ⟨y, hy⟩ : ∃ y, X[j]? = some y := ⟨_, List.getElem?_eq_getElem (by omega)⟩
          have hyB : B[a + j]? = some y := by rw [← HG.out j (by omega)]; exact hy
          have a0 : wr.cell? ⟨b, o + (a + j), none⟩ = some (.int .u8 (y.toNat : Nat)) := HC.out (a + j) _ (by rw [List.getElem?_map, hyB]; rfl)
          have hxl : leN (X.drop (j + 1)) < 1099511627776 := by
            have h1 := leN_lt (X.drop (j + 1))
            have h2 : (X.drop (j + 1)).length ≤ 4 := by rw [List.length_drop]; omega
            have h3 := Nat.pow_le_pow_right (n := 256) (by omega) h2
            omega
          have hor := or_i64 _ _ hxl y.toNat_lt
          rw [← leN_drop hy] at hor
          have HOR := Lib.hid hor
          have e1 : ((j + 1 : Nat) : Int) - 1 = (j : Int) := by omega
          rw [e1]
          clear hor hyB
          go_wp2
          go_roundw
          case rel => exact ⟨j, by omega, rfl, by rw [HOR.out], trivial⟩
          case measure => simp [intOf]
set_option maxRecDepth 100000 in
set_option maxHeartbeats 4000000 in
theorem ltx20_any (w : World) (g : Nat) (tv bv : Value) (T : List ByteArray) (B : List UInt8) (bad : Bool) (a : Nat) (may : Bool) (h : LfW w g tv bv T B bad) (ha : a ≤ 10000000) (hBl : B.length ≤ 1000000) :
    Calls Tryz.prog 45 #[.pointer (some ⟨g, 0, none⟩), .int .i64 a, .bool may] w fun e w' => e = .returned (.string (txL B T bad a may).1) ∧ LfW w' g tv bv T B (txL B T bad a may).2 ∧ Keep [g] w w' := by
  have hN := num20_any w g tv bv T B bad a 2 h (by omega) ha hBl
  unfold txL
  generalize nmL B bad a 2 = R at hN ⊢
  obtain ⟨x, b⟩ := R
  simp only at hN ⊢
  have HN := Lib.hid hN
  obtain ⟨A, cap, rfl, hl1, hl2, hat⟩ := h.2.1
  have HAT := Lib.hid hat
  clear hN h hat
  by_cases hc : may = true ∧ x = 65535
  · obtain ⟨rfl, rfl⟩ := hc
    rw [if_pos ⟨rfl, rfl⟩]
    go_enter Tryz.func45, Tryz.ntmps45
    go_wp2_with (go_at_call 44; refine HN.out.mono ?_; rintro e w1 ⟨rfl, h1, k1⟩; have d2 : w1.cell? ⟨g, 2, none⟩ = some (.bool b) := h1.1.cell_eq rfl; have H1 := Lib.hid h1; have K1 := Lib.hid k1; clear h1 k1)
    go_ret
    exact ⟨rfl, H1.out, K1.out⟩
  · rw [if_neg hc]
    by_cases hb : b = true ∨ T.length ≤ x
    · rw [if_pos hb]
      have hbb : b = true ∨ b = false ∧ ¬ ((x : Int) < (T.length : Int)) := by cases b <;> simp at hb ⊢ <;> omega
      clear hb
      rcases hbb with rfl | ⟨rfl, hx⟩ <;> cases may
      all_goals (try have hc' : ((x : Int) == 65535) = false := by (simp at hc ⊢; omega))
      all_goals clear hc
      all_goals go_enter Tryz.func45, Tryz.ntmps45
      all_goals go_wp2_with (go_at_call 44; refine HN.out.mono ?_; rintro e w1 ⟨rfl, h1, k1⟩; have d2 : w1.cell? ⟨g, 2, none⟩ = some (.bool _) := h1.1.cell_eq rfl; have d0 : w1.cell? ⟨g, 0, none⟩ = some (.slice A T.length cap) := h1.1.cell_eq rfl; have f2 : w1.frozen? ⟨g, 2, none⟩ = false := h1.1.frozen 2; have H1 := Lib.hid (h1.set true); have K1 := Lib.hid k1; clear h1 k1)
      all_goals go_ret
      all_goals exact ⟨rfl, H1.out.1, K1.out.same H1.out.2⟩
    · rw [if_neg hb]
      obtain ⟨rfl, hx⟩ : b = false ∧ x < T.length := by cases b <;> simp at hb ⊢; omega
      obtain ⟨s, hs⟩ : ∃ s, T[x]? = some s := ⟨_, List.getElem?_eq_getElem hx⟩
      obtain ⟨tb, o, rfl, htg, htl, hcells⟩ := HAT.out (by omega)
      have a0 : w.cell? ⟨tb, o + x, none⟩ = some (.string s) := hcells x _ (by rw [List.getElem?_map, hs]; rfl)
      have hxi : (x : Int) < (T.length : Int) := by omega
      have hgd : T.getD x ⟨#[]⟩ = s := by rw [List.getD_eq_getElem?_getD, hs]; rfl
      rw [hgd]
      clear hb hcells hs hgd HAT
      cases may
      all_goals (try have hc' : ((x : Int) == 65535) = false := by (simp at hc ⊢; omega))
      all_goals clear hc
      all_goals go_enter Tryz.func45, Tryz.ntmps45
      all_goals go_wp2_with (go_at_call 44; refine HN.out.mono ?_; rintro e w1 ⟨rfl, h1, k1⟩; have d2 : w1.cell? ⟨g, 2, none⟩ = some (.bool false) := h1.1.cell_eq rfl; have d0 : w1.cell? ⟨g, 0, none⟩ = some (.slice (some ⟨tb, o, none⟩) T.length cap) := h1.1.cell_eq rfl; have a1 := (k1.cell (p := ⟨tb, o + x, none⟩) htl (by simpa using htg)).trans a0; have H1 := Lib.hid h1; have K1 := Lib.hid k1; clear h1 k1)
      all_goals go_ret
      all_goals exact ⟨rfl, H1.out, K1.out⟩
end Go.Proofs.YtmfoiceofhcicaaGreatDoor

namespace Go.Proofs.YtmfoiceofhcicaaGreatDoor
open Go.RowKit

section
variable {B : List UInt8} {T : List ByteArray}
theorem nmL_val {bad : Bool} {a n : Nat} : (nmL B bad a n).1 < 256 ^ n := by
  unfold nmL
  split
  · exact Nat.pow_pos (by decide)
  · refine Nat.lt_of_lt_of_le (leN_lt _) (Nat.pow_le_pow_right (by decide) ?_)
    rw [List.length_take]
    omega
theorem casF_le {M : Bool → Nat → List PT × Nat × Bool} (hM : ∀ bad a l e b, M bad a = (l, e, b) → a ≤ B.length + 4 → e ≤ B.length + 4) (a : Nat) : ∀ (m i nx : Nat) (acc : List CT) (bad : Bool) (cs : List CT) (e : Nat) (b : Bool), casF B T M a m i nx acc bad = (cs, e, b) →
    (bad = false → nx ≤ B.length + 4) → nx ≤ B.length + 9 → e ≤ B.length + 9 ∧ (b = false → e ≤ B.length + 4)
  | 0, i, nx, acc, bad, cs, e, b, h, h1, h2 => by
    simp only [casF, Prod.mk.injEq] at h
    obtain ⟨_, rfl, rfl⟩ := h
    exact ⟨h2, h1⟩
  | m + 1, i, nx, acc, bad, cs, e, b, h, h1, h2 => by
    unfold casF at h
    split at h
    · simp only [Prod.mk.injEq] at h
      obtain ⟨_, rfl, rfl⟩ := h
      exact ⟨h2, fun h => by cases h⟩
    · rename_i hb
      split at h
      · simp only [Prod.mk.injEq] at h
        obtain ⟨_, rfl, rfl⟩ := h
        exact ⟨h2, fun h => by cases h⟩
      · simp only at h
        generalize hl : M (nmL B (txL B T false (a + 9 + 6 * i) false).2 (a + 11 + 6 * i) 4).2 nx = l at h
        obtain ⟨l, e1, b1⟩ := l
        simp only at h
        have he := hM _ _ _ _ _ hl (h1 (by simpa using hb))
        refine casF_le hM a m (i + 1) (e1 + 5) _ _ cs e b h (fun hf => ?_) (by omega)
        split at hf
        · cases hf
        · have := (nmL_good hf).2
          omega
theorem casF_ge {M : Bool → Nat → List PT × Nat × Bool} (hM : ∀ bad a l e, M bad a = (l, e, false) → a ≤ e) (a : Nat) : ∀ (m i nx : Nat) (acc : List CT) (bad : Bool) (cs : List CT) (e : Nat), casF B T M a m i nx acc bad = (cs, e, false) → nx ≤ e
  | 0, i, nx, acc, bad, cs, e, h => by
    simp only [casF, Prod.mk.injEq] at h
    omega
  | m + 1, i, nx, acc, bad, cs, e, h => by
    unfold casF at h
    split at h
    · simp at h
    · split at h
      · simp at h
      · simp only at h
        generalize hl : M (nmL B (txL B T false (a + 9 + 6 * i) false).2 (a + 11 + 6 * i) 4).2 nx = l at h
        obtain ⟨l, e1, b1⟩ := l
        simp only at h
        have h1 := casF_ge hM a m (i + 1) (e1 + 5) _ _ cs e h
        have hbf : (if (nmL B b1 e1 1).1 ≠ 7 then true else (nmL B b1 e1 1).2) = false := by
          generalize hq : (if (nmL B b1 e1 1).1 ≠ 7 then true else (nmL B b1 e1 1).2) = q at h
          cases q with
          | false => rfl
          | true =>
            cases m with
            | zero => simp [casF] at h
            | succ m => simp [casF] at h
        split at hbf
        · cases hbf
        · obtain ⟨rfl, _⟩ := nmL_good hbf
          have := hM _ _ _ _ hl
          omega
theorem chF_le {M : Bool → Nat → List PT × Nat × Bool} (hM : ∀ bad a l e b, M bad a = (l, e, b) → a ≤ B.length + 4 → e ≤ B.length + 4) (d : Nat) (bad : Bool) (a : Nat) (p : PT) (e : Nat) (b : Bool) (h : chF B T M d bad a = (p, e, b)) : e ≤ B.length + 9 ∧ (b = false → e ≤ B.length + 4) := by
  unfold chF at h
  simp only at h
  split at h
  · simp only [Prod.mk.injEq] at h
    obtain ⟨_, rfl, rfl⟩ := h
    exact ⟨by omega, fun h => by cases h⟩
  · rename_i hn
    simp only [Prod.mk.injEq] at h
    obtain ⟨_, he, hb⟩ := h
    exact casF_le hM a _ _ _ _ _ _ e b (Prod.ext rfl (Prod.ext he hb)) (fun _ => by omega) (by omega)
theorem chF_ge {M : Bool → Nat → List PT × Nat × Bool} (hM : ∀ bad a l e, M bad a = (l, e, false) → a ≤ e) (d : Nat) (bad : Bool) (a : Nat) (p : PT) (e : Nat) (h : chF B T M d bad a = (p, e, false)) : a + 9 ≤ e := by
  unfold chF at h
  simp only at h
  split at h
  · simp at h
  · simp only [Prod.mk.injEq] at h
    obtain ⟨_, he, hb⟩ := h
    have := casF_ge hM a _ _ _ _ _ _ e (Prod.ext rfl (Prod.ext he hb))
    omega
theorem ptF_le {C : Bool → Nat → PT × Nat × Bool} (hC : ∀ bad a p e b, C bad a = (p, e, b) → b = false → e ≤ B.length + 4) : ∀ (f : Nat) (bad : Bool) (a : Nat) (acc l : List PT) (e : Nat) (b : Bool), ptF B T C f bad a acc = (l, e, b) → (bad = false → a ≤ B.length + 4) → e ≤ B.length + 4
  | 0, _, _, _, _, e, _, h, _ => by
    simp only [ptF, Prod.mk.injEq] at h
    omega
  | f + 1, bad, a, acc, l, e, b, h, ha => by
    have tx : ∀ {bd : Bool} {x : Nat} {m : Bool}, (txL B T bd x m).2 = false → x + 2 ≤ B.length := fun h => (txL_good h).2
    unfold ptF at h
    split at h
    · simp only [Prod.mk.injEq] at h
      omega
    · rename_i hb
      split at h
      · exact ptF_le hC f _ _ _ _ _ _ h fun hf => by have := tx hf; omega
      · split at h
        · exact ptF_le hC f _ _ _ _ _ _ h fun hf => by have := tx hf; omega
        · split at h
          · exact ptF_le hC f _ _ _ _ _ _ h fun hf => by have := tx hf; omega
          · split at h
            · exact ptF_le hC f _ _ _ _ _ _ h fun hf => hC _ _ _ _ _ rfl hf
            · split at h
              · simp only [Prod.mk.injEq] at h
                obtain ⟨_, rfl, _⟩ := h
                exact ha (by simpa using hb)
              · simp only [Prod.mk.injEq] at h
                omega
/-- What reads a choice, so many within one another. -/
def lcF (B : List UInt8) (T : List ByteArray) : Nat → Bool → Nat → PT × Nat × Bool
  | 0 => chF B T (fun _ _ => ([], 0, true)) 0
  | d + 1 => chF B T (lfF B T d) (d + 1)
theorem lfF_eq (d : Nat) (bad : Bool) (a : Nat) : lfF B T d bad a = ptF B T (lcF B T d) (B.length + 11) bad a [] := by cases d <;> rfl
theorem lc_le : ∀ (d : Nat) (bad : Bool) (a : Nat) (p : PT) (e : Nat) (b : Bool), lcF B T d bad a = (p, e, b) → e ≤ B.length + 9 ∧ (b = false → e ≤ B.length + 4)
  | 0, bad, a, p, e, b, h => chF_le (fun _ _ _ _ _ h _ => by simp only [Prod.mk.injEq] at h; omega) 0 bad a p e b h
  | d + 1, bad, a, p, e, b, h => by
    refine chF_le (M := lfF B T d) (fun bad a l e b h ha => ?_) (d + 1) bad a p e b h
    rw [lfF_eq] at h
    exact ptF_le (fun bad a p e b h => (lc_le d bad a p e b h).2) _ _ _ _ _ _ _ h fun _ => ha
theorem lf_le {d : Nat} {bad : Bool} {a : Nat} {l : List PT} {e : Nat} {b : Bool} (h : lfF B T d bad a = (l, e, b)) (ha : a ≤ B.length + 4) : e ≤ B.length + 4 := by
  rw [lfF_eq] at h
  exact ptF_le (fun bad a p e b h => (lc_le d bad a p e b h).2) _ _ _ _ _ _ _ h fun _ => ha
theorem size_ex : ∀ T : List ByteArray, ∃ S, ∀ t ∈ T, t.size ≤ S
  | [] => ⟨0, fun _ h => by cases h⟩
  | t :: T => by
    obtain ⟨S, h⟩ := size_ex T
    refine ⟨max t.size S, fun x hx => ?_⟩
    rcases List.mem_cons.1 hx with rfl | hx
    · omega
    · have := h x hx; omega
theorem lf_ge {d : Nat} {bad : Bool} {a : Nat} {l : List PT} {e : Nat} (h : lfF B T d bad a = (l, e, false)) : a ≤ e := by
  obtain ⟨S, hS⟩ := size_ex T
  exact (lf_bulk hS d bad a l e h).1
theorem lc_ge {d : Nat} {bad : Bool} {a : Nat} {p : PT} {e : Nat} (h : lcF B T d bad a = (p, e, false)) : a + 9 ≤ e := by
  cases d with
  | zero => exact chF_ge (fun _ _ _ _ h => by simp at h) 0 bad a p e h
  | succ d => exact chF_ge (fun _ _ _ _ h => lf_ge h) (d + 1) bad a p e h
end
/-- The lifter's parts, its choice: what the calls tell. -/
def LpC (d : Nat) : Prop := ∀ (w : World) (g : Nat) (tv bv : Value) (T : List ByteArray) (B : List UInt8) (bad : Bool) (a : Nat), LfW w g tv bv T B bad → a ≤ B.length + 4 → B.length ≤ 1000000 →
  Calls Tryz.prog 63 #[.pointer (some ⟨g, 0, none⟩), .int .i64 a, .int .i64 d] w fun e w' => ∃ u, e = .returned (.tuple #[u, .int .i64 ((lfF B T d bad a).2.1 : Nat)]) ∧ OwnL d w' w.heap.size u (lfF B T d bad a).1 ∧ LfW w' g tv bv T B (lfF B T d bad a).2.2 ∧ Keep [g] w w'
def LcC (d : Nat) : Prop := ∀ (w : World) (g : Nat) (tv bv : Value) (T : List ByteArray) (B : List UInt8) (bad : Bool) (a : Nat), LfW w g tv bv T B bad → a ≤ B.length + 4 → B.length ≤ 1000000 →
  Calls Tryz.prog 90 #[.pointer (some ⟨g, 0, none⟩), .int .i64 a, .int .i64 d] w fun e w' => ∃ u, e = .returned (.tuple #[.agg #[.int .i64 (lcF B T d bad a).1.k, .string (lcF B T d bad a).1.tx, .string (lcF B T d bad a).1.nm, .string (lcF B T d bad a).1.ty, .string (lcF B T d bad a).1.st, .int .i64 (lcF B T d bad a).1.off, u], .int .i64 ((lcF B T d bad a).2.1 : Nat)]) ∧
    LiesC d (fun x => w.heap.size ≤ x ∧ x < w'.heap.size) w' u (lcF B T d bad a).1.cs ∧ LfW w' g tv bv T B (lcF B T d bad a).2.2 ∧ Keep [g] w w'
end Go.Proofs.YtmfoiceofhcicaaGreatDoor

namespace Go.Proofs.YtmfoiceofhcicaaGreatDoor
open Go.RowKit Go.IntWalk

/-- A part of its kind, its name, its offset. -/
def offP (k : Int) (nm : ByteArray) (off : Int) : PT := ⟨k, ⟨#[]⟩, nm, ⟨#[]⟩, ⟨#[]⟩, off, []⟩
theorem partL_all {w : World} {b : Nat} {pt : PT} {cv : Value} (h : Blk w b 68 (pt.cells cv).toArray) :
    w.cell? ⟨b, 0, none⟩ = some (.int .i64 pt.k) ∧ w.cell? ⟨b, 1, none⟩ = some (.string pt.tx) ∧ w.cell? ⟨b, 2, none⟩ = some (.string pt.nm) ∧ w.cell? ⟨b, 3, none⟩ = some (.string pt.ty) ∧ w.cell? ⟨b, 4, none⟩ = some (.string pt.st) ∧ w.cell? ⟨b, 5, none⟩ = some (.int .i64 pt.off) ∧ w.cell? ⟨b, 6, none⟩ = some cv ∧ ∀ i, w.frozen? ⟨b, i, none⟩ = false :=
  ⟨h.cell_eq rfl, h.cell_eq rfl, h.cell_eq rfl, h.cell_eq rfl, h.cell_eq rfl, h.cell_eq rfl, h.cell_eq rfl, h.frozen⟩
/-- A whole part stored into a block of one. -/
def storeL (w : World) (b : Nat) (pt : PT) (cv : Value) : World :=
  ((((((w.setCell ⟨b, 0, none⟩ (.int .i64 pt.k)).setCell ⟨b, 1, none⟩ (.string pt.tx)).setCell ⟨b, 2, none⟩ (.string pt.nm)).setCell ⟨b, 3, none⟩ (.string pt.ty)).setCell ⟨b, 4, none⟩ (.string pt.st)).setCell ⟨b, 5, none⟩ (.int .i64 pt.off)).setCell ⟨b, 6, none⟩ cv
theorem storeL_blk {w : World} {b : Nat} {pt0 : PT} {cv0 : Value} (h : Blk w b 68 (pt0.cells cv0).toArray) (pt : PT) (cv : Value) : Blk (storeL w b pt cv) b 68 (pt.cells cv).toArray := by
  have h7 := Blk.set_ (Blk.set_ (Blk.set_ (Blk.set_ (Blk.set_ (Blk.set_ (Blk.set_ h 0 (.int .i64 pt.k)) 1 (.string pt.tx)) 2 (.string pt.nm)) 3 (.string pt.ty)) 4 (.string pt.st)) 5 (.int .i64 pt.off)) 6 cv
  have he : ((((((((pt0.cells cv0).toArray.setIfInBounds 0 (.int .i64 pt.k)).setIfInBounds 1 (.string pt.tx)).setIfInBounds 2 (.string pt.nm)).setIfInBounds 3 (.string pt.ty)).setIfInBounds 4 (.string pt.st)).setIfInBounds 5 (.int .i64 pt.off)).setIfInBounds 6 cv) = (pt.cells cv).toArray := by simp [PT.cells]
  rw [he] at h7
  exact h7
theorem storeL_keep (w : World) (b : Nat) (pt : PT) (cv : Value) : Keep [b] w (storeL w b pt cv) :=
  (((((((Keep.refl [b] w).setCell (p := ⟨b, 0, none⟩) (.inl (by simp)) _).setCell (p := ⟨b, 1, none⟩) (.inl (by simp)) _).setCell (p := ⟨b, 2, none⟩) (.inl (by simp)) _).setCell (p := ⟨b, 3, none⟩) (.inl (by simp)) _).setCell (p := ⟨b, 4, none⟩) (.inl (by simp)) _).setCell (p := ⟨b, 5, none⟩) (.inl (by simp)) _).setCell (p := ⟨b, 6, none⟩) (.inl (by simp)) _
theorem LfW.re {w w' : World} {g : Nat} {tv bv : Value} {T : List ByteArray} {B : List UInt8} {bad b : Bool} (h : LfW w g tv bv T B bad) (hk : Keep [g] w w') (hb : Blk w' g 94 #[tv, bv, .bool b]) : LfW w' g tv bv T B b :=
  ⟨hb, h.2.1.keep hk (by simp), h.2.2.keep hk (by simp)⟩
set_option maxRecDepth 100000 in
set_option maxHeartbeats 8000000 in
theorem choiceL_step (d : Nat) (hd : d ≤ 100) (ih : ∀ m, m + 1 = d → LpC m) : LcC d := by
  intro w g tv bv T B bad a h ha hBl
  obtain ⟨BA, bc, rfl⟩ : ∃ BA bc, bv = .slice BA B.length bc := by
    obtain ⟨BA, bc, e, -⟩ := h.2.2
    exact ⟨BA, bc, e⟩
  obtain ⟨M, hM, hM2⟩ : ∃ M, lcF B T d bad a = chF B T M d bad a ∧ ∀ m, m + 1 = d → M = lfF B T m := by
    cases d with
    | zero => exact ⟨_, rfl, fun m h => by omega⟩
    | succ d =>
      refine ⟨_, rfl, fun m h => ?_⟩
      obtain rfl : m = d := by omega
      rfl
  obtain ⟨TT, hTT⟩ : ∃ TT, lcF B T d bad a = TT := ⟨_, rfl⟩
  rw [hTT]
  rw [hM] at hTT
  unfold chF at hTT
  obtain ⟨k, b1, hk⟩ : ∃ x y, nmL B bad a 1 = (x, y) := ⟨_, _, rfl⟩
  simp only [hk] at hTT
  obtain ⟨t, b2, ht⟩ : ∃ x y, txL B T b1 (a + 1) false = (x, y) := ⟨_, _, rfl⟩
  simp only [ht] at hTT
  obtain ⟨o, b3, ho⟩ : ∃ x y, nmL B b2 (a + 3) 4 = (x, y) := ⟨_, _, rfl⟩
  simp only [ho] at hTT
  obtain ⟨n, b4, hn⟩ : ∃ x y, nmL B b3 (a + 7) 2 = (x, y) := ⟨_, _, rfl⟩
  simp only [hn] at hTT
  have hk1 : k < 256 := by have := nmL_val (B := B) (bad := bad) (a := a) (n := 1); rw [hk] at this; simpa using this
  have ho1 : o < 4294967296 := by have := nmL_val (B := B) (bad := b2) (a := a + 3) (n := 4); rw [ho] at this; simpa using this
  have hn1 : n < 65536 := by have := nmL_val (B := B) (bad := b3) (a := a + 7) (n := 2); rw [hn] at this; simpa using this
  have HN1 : Hid (∀ W, LfW W g tv (.slice BA B.length bc) T B bad → Calls Tryz.prog 44 #[.pointer (some ⟨g, 0, none⟩), .int .i64 (a : Int), .int .i64 1] W fun e w' => e = .returned (.int .i64 (k : Int)) ∧ LfW w' g tv (.slice BA B.length bc) T B b1 ∧ Keep [g] W w') := fun W h => by
    have := num20_any W g tv _ T B bad a 1 h ⟨by omega, by omega⟩ (by omega) hBl
    rw [hk] at this
    exact this
  have HT2 : Hid (∀ W, LfW W g tv (.slice BA B.length bc) T B b1 → Calls Tryz.prog 45 #[.pointer (some ⟨g, 0, none⟩), .int .i64 ((a : Int) + 1), .bool false] W fun e w' => e = .returned (.string t) ∧ LfW w' g tv (.slice BA B.length bc) T B b2 ∧ Keep [g] W w') := fun W h => by
    have := ltx20_any W g tv _ T B b1 (a + 1) false h (by omega) hBl
    rw [ht] at this
    exact this
  have HN3 : Hid (∀ W, LfW W g tv (.slice BA B.length bc) T B b2 → Calls Tryz.prog 44 #[.pointer (some ⟨g, 0, none⟩), .int .i64 ((a : Int) + 3), .int .i64 4] W fun e w' => e = .returned (.int .i64 (o : Int)) ∧ LfW w' g tv (.slice BA B.length bc) T B b3 ∧ Keep [g] W w') := fun W h => by
    have := num20_any W g tv _ T B b2 (a + 3) 4 h ⟨by omega, by omega⟩ (by omega) hBl
    rw [ho] at this
    exact this
  have HN4 : Hid (∀ W, LfW W g tv (.slice BA B.length bc) T B b3 → Calls Tryz.prog 44 #[.pointer (some ⟨g, 0, none⟩), .int .i64 ((a : Int) + 7), .int .i64 2] W fun e w' => e = .returned (.int .i64 (n : Int)) ∧ LfW w' g tv (.slice BA B.length bc) T B b4 ∧ Keep [g] W w') := fun W h => by
    have := num20_any W g tv _ T B b3 (a + 7) 2 h ⟨by omega, by omega⟩ (by omega) hBl
    rw [hn] at this
    exact this
  have HIH := Lib.hid ih
  have HM2 := Lib.hid hM2
  have HH := Lib.hid h
  have hg := h.1.lt
  have HTT := Lib.hid hTT
  clear ih hM2 h hk ht ho hn hM hTT
  go_enter Tryz.func90, Tryz.ntmps90
  go_upto_region 1 with fail
  have hR0 : Blk (w.alloc (.cells #[.int .i64 0, .string ⟨#[]⟩, .string ⟨#[]⟩, .string ⟨#[]⟩, .string ⟨#[]⟩, .int .i64 0, .slice none 0 0] 68)) w.heap.size 68 ((offP 0 ⟨#[]⟩ 0).cells (.slice none 0 0)).toArray := Blk.new _ _ _
  have hK0 : Keep [] w (w.alloc (.cells #[.int .i64 0, .string ⟨#[]⟩, .string ⟨#[]⟩, .string ⟨#[]⟩, .string ⟨#[]⟩, .int .i64 0, .slice none 0 0] 68)) := (Keep.refl _ _).alloc _
  have HF0 := Lib.hid (HH.out.to hK0)
  generalize w.alloc (.cells #[.int .i64 0, .string ⟨#[]⟩, .string ⟨#[]⟩, .string ⟨#[]⟩, .string ⟨#[]⟩, .int .i64 0, .slice none 0 0] 68) = W0 at *
  obtain ⟨rb, hrb⟩ : ∃ rb, w.heap.size = rb := ⟨_, rfl⟩
  rw [hrb] at hR0 ⊢
  have hgr : g ≠ rb := by omega
  have HR0 := Lib.hid hR0
  have HK0 := Lib.hid (hK0.mono (cs := [g]) (by simp))
  have HRB := Lib.hid hrb
  clear hR0 hK0 hrb
  go_upto_region 2 with (first
    | (go_at_call 44; with_reducible refine (HN1.out _ HF0.out).mono ?_; rintro e w1 ⟨rfl, h1, k1⟩; have HF1 := Lib.hid h1; have HK1 := Lib.hid (HK0.out.same k1); have HR1 := Lib.hid (HR0.out.keep k1 (by simp; omega)); clear h1 k1)
    | (go_at_call 45; with_reducible refine (HT2.out _ HF1.out).mono ?_; rintro e w2 ⟨rfl, h2, k2⟩; have HF2 := Lib.hid h2; have HK2 := Lib.hid (HK1.out.same k2); have HR2 := Lib.hid (HR1.out.keep k2 (by simp; omega)); clear h2 k2)
    | (go_at_call 44; with_reducible refine (HN3.out _ HF2.out).mono ?_; rintro e w3 ⟨rfl, h3, k3⟩; have HF3 := Lib.hid h3; have HK3 := Lib.hid (HK2.out.same k3); have HR3 := Lib.hid (HR2.out.keep k3 (by simp; omega)); clear h3 k3)
    | fail)
  have hP4 : Blk (w3.alloc (.cells #[.int .i64 (k : Int), .string ⟨#[]⟩, .string t, .string ⟨#[]⟩, .string ⟨#[]⟩, .int .i64 (o : Int), .slice none 0 0] 68)) w3.heap.size 68 ((offP k t o).cells (.slice none 0 0)).toArray := Blk.new _ _ _
  have hK4 : Keep [] w3 (w3.alloc (.cells #[.int .i64 (k : Int), .string ⟨#[]⟩, .string t, .string ⟨#[]⟩, .string ⟨#[]⟩, .int .i64 (o : Int), .slice none 0 0] 68)) := (Keep.refl _ _).alloc _
  have HF4 := Lib.hid (HF3.out.to hK4)
  have HR4 := Lib.hid (HR3.out.keep hK4 (by simp))
  have HK4 := Lib.hid (HK3.out.nil hK4)
  have hrp : rb < w3.heap.size := HR3.out.lt
  generalize w3.alloc (.cells #[.int .i64 (k : Int), .string ⟨#[]⟩, .string t, .string ⟨#[]⟩, .string ⟨#[]⟩, .int .i64 (o : Int), .slice none 0 0] 68) = W4 at *
  obtain ⟨pb, hpb⟩ : ∃ pb, w3.heap.size = pb := ⟨_, rfl⟩
  rw [hpb] at hP4 hrp ⊢
  have hgp : g ≠ pb := by have := HRB.out; omega
  have hrw : w.heap.size ≤ rb := by have := HRB.out; omega
  have HP4 := Lib.hid hP4
  clear hP4 hK4 hpb
  go_upto_region 4 with (go_at_call 44; (with_reducible refine (HN4.out _ HF4.out).mono ?_); rintro e w5 ⟨rfl, h5, k5⟩; have d2 : w5.cell? ⟨g, 2, none⟩ = some (.bool b4) := h5.1.cell_eq rfl; have d1 : w5.cell? ⟨g, 1, none⟩ = some (.slice BA B.length bc) := h5.1.cell_eq rfl; have f2 : w5.frozen? ⟨g, 2, none⟩ = false := h5.1.frozen 2; have HF5 := Lib.hid h5; have HK5 := Lib.hid (HK4.out.same k5); have HR5 := Lib.hid (HR4.out.keep k5 (by simp; omega)); have HP5 := Lib.hid (HP4.out.keep k5 (by simp; omega)); clear h5 k5)
  clear HN1 HT2 HN3 HN4 HF0 HF1 HF2 HF3 HF4 HK0 HK1 HK2 HK3 HK4 HR0 HR1 HR2 HR3 HR4 HP4
  by_cases hcnd : b4 = true ∨ d = 0 ∨ n = 0 ∨ B.length < a + 9 + 6 * n
  · have hTT := HTT.out
    rw [if_pos hcnd] at hTT
    subst hTT
    have hw : b4 = true ∨ (b4 = false ∧ ((d : Int) == 0) = true) ∨ (b4 = false ∧ ((d : Int) == 0) = false ∧ ((n : Int) == 0) = true) ∨ (b4 = false ∧ ((d : Int) == 0) = false ∧ ((n : Int) == 0) = false ∧ (B.length : Int) < (a : Int) + 9 + 6 * (n : Int)) := by
      cases b4 <;> simp at hcnd ⊢ <;> omega
    clear hcnd HIH HM2
    rcases hw with rfl | ⟨rfl, e1⟩ | ⟨rfl, e1, e2⟩ | ⟨rfl, e1, e2, e3⟩
    all_goals
      go_upto_region 6 with fail
      have hS := HF5.out.set true
      have hR6 := HR5.out.keep hS.2 (by simp; omega)
      have hP6 := HP5.out.keep hS.2 (by simp; omega)
      have hF6 := hS.1
      have hK6 := HK5.out.same hS.2
      clear hS
      generalize w5.setCell ⟨g, 2, none⟩ (.bool true) = W6 at *
      obtain ⟨a0, a1, a2, a3, a4, a5, a6, -⟩ := partL_all hP6
      obtain ⟨b0, b1, b2, b3, b4, b5, b6, bz⟩ := partL_all hR6
      have HRE := Lib.hid hR6
      have HFE := Lib.hid hF6.1
      have HKE := Lib.hid hK6
      clear hR6 hP6 hF6 hK6
      go_wp2
      have HR7 := Lib.hid (storeL_blk HRE.out (offP k t o) (.slice none 0 0))
      have HK7 := Lib.hid (storeL_keep W6 rb (offP k t o) (.slice none 0 0))
      change bodyPost Tryz.prog _ _ _ _ (storeL W6 rb (offP k t o) (.slice none 0 0))
      generalize storeL W6 rb (offP k t o) (.slice none 0 0) = W7 at *
      obtain ⟨d0, d1, d2, d3, d4, d5, d6, -⟩ := partL_all HR7.out
      have hkk : Keep [g] w W7 := (HKE.out).trans HK7.out (fun x hx => .inr (by simp at hx; subst hx; exact hrw))
      refine bodyPost_ret (v := .tuple #[.agg ((offP k t o).cells (.slice none 0 0)).toArray, .int .i64 0]) ?_ rfl ⟨(.slice none 0 0), rfl, LiesC.nil _ _ _, HH.out.re hkk (HFE.out.keep HK7.out (by simp; omega)), hkk⟩
      simp [results, Tryz.results90, go_sem, d0, d1, d2, d3, d4, d5, d6, offP, PT.cells]
  · have hTT := HTT.out
    rw [if_neg hcnd] at hTT
    obtain ⟨rfl, hd0, hn0, hlen⟩ : b4 = false ∧ d ≠ 0 ∧ n ≠ 0 ∧ a + 9 + 6 * n ≤ B.length := by
      rw [not_or, not_or, not_or] at hcnd
      exact ⟨by simpa using hcnd.1, hcnd.2.1, hcnd.2.2.1, by omega⟩
    obtain ⟨m, rfl⟩ : ∃ m, d = m + 1 := ⟨d - 1, by omega⟩
    obtain rfl : M = lfF B T m := HM2.out m rfl
    have HLP := Lib.hid (HIH.out m rfl)
    obtain ⟨z, hz⟩ : ∃ z : Int, ((m + 1 : Nat) : Int) = z := ⟨_, rfl⟩
    rw [hz]
    have e1 : (z == 0) = false := by simp; omega
    have e2 : ((n : Int) == 0) = false := by simp; omega
    have e3 : ¬ (B.length : Int) < (a : Int) + 9 + 6 * (n : Int) := by omega
    have hz1 : IntKind.i64.wrap (z - 1) = (m : Int) := by rw [IntKind.wrap_i64]; omega
    have hz2 : wrap64 (z - 1) = (m : Int) := by unfold wrap64; omega
    obtain ⟨TC, hTC⟩ : ∃ TC, casF B T (lfF B T m) a n 0 (a + 9 + 6 * n) [] false = TC := ⟨_, rfl⟩
    rw [hTC] at hTT
    have HTT2 := Lib.hid hTT
    have HTC := Lib.hid hTC
    have hpw : w.heap.size ≤ pb := by omega
    have hgw : g < w5.heap.size := HF5.out.1.lt
    have hpw5 : pb < w5.heap.size := HP5.out.lt
    have hrw5 : rb < w5.heap.size := HR5.out.lt
    clear hTT hTC hcnd HIH HM2 HTT hz
    go_upto_region 7 with fail
    clear d1 d2 f2 e2 e3
    go_upto_region 8 with fail
    go_loopw [10, 11] (fun nv iv wr => ∃ (j x : Nat) (cs : List CT) (cv : Value) (b : Bool), j ≤ n ∧ iv = .int .i64 j ∧ nv = .int .i64 x ∧ cs.length ≤ j ∧ Blk wr pb 68 ((offP k t o).cells cv).toArray ∧ OwnC (m + 1) wr w5.heap.size cv cs ∧ Blk wr g 94 #[tv, .slice BA B.length bc, .bool b] ∧ Keep [g, pb] w5 wr ∧ (b = false → x ≤ B.length + 4) ∧ x ≤ B.length + 9 ∧ casF B T (lfF B T m) a (n - j) j x cs b = TC) (fun _ iv _ => n - (intOf iv).toNat)
    case atStart => exact ⟨0, a + 9 + 6 * n, [], .slice none 0 0, false, Nat.zero_le _, rfl, by go_num, Nat.zero_le _, HP5.out, OwnC.nil _ _ _, HF5.out.1, Keep.refl _ _, fun _ => by omega, by omega, HTC.out⟩
    case round =>
      obtain ⟨j, x, cs, cv, b, hj, rfl, rfl, hcl, hP, hO, hG, hK, hx1, hx2, hcas⟩ := hrel
      have hKwr : Keep [g] w wr := HK5.out.trans hK (fun y hy => by
        rcases List.mem_cons.1 hy with rfl | hy
        · exact .inl (by simp)
        · simp at hy; subst hy; exact .inr hpw)
      obtain ⟨CA, cc, rfl⟩ := hO.form
      have hFr := HH.out.re hKwr hG
      have hRr := HR5.out.keep hK (by simp; omega)
      have d2 : wr.cell? ⟨g, 2, none⟩ = some (.bool b) := hG.cell_eq rfl
      have f2 : wr.frozen? ⟨g, 2, none⟩ = false := hG.frozen 2
      have hzr : w5.heap.size ≤ wr.heap.size := hK.size
      have HF := Lib.hid hFr
      have HRE := Lib.hid hRr
      have HP := Lib.hid hP
      have HO := Lib.hid hO
      have HG := Lib.hid hG
      have HKE := Lib.hid hKwr
      have HK := Lib.hid hK
      clear hFr hRr hP hO hG hKwr hK
      by_cases hend : j = n ∨ b = true
      · obtain rfl : (cs, x, b) = TC := by
          rw [← hcas]
          rcases Nat.lt_or_ge j n with h | h
          · obtain rfl : b = true := hend.resolve_left (by omega)
            obtain ⟨q, hq⟩ : ∃ q, n - j = q + 1 := ⟨n - j - 1, by omega⟩
            rw [hq, casF, if_pos rfl]
          · rw [show n - j = 0 by omega, casF]
        have hTT := HTT2.out
        simp only at hTT
        subst hTT
        obtain ⟨a0, a1, a2, a3, a4, a5, a6, -⟩ := partL_all HP.out
        obtain ⟨b0, b1, b2, b3, b4, b5, b6, bz⟩ := partL_all HRE.out
        have hgo : ¬ (j : Int) < (n : Int) ∨ ((j : Int) < (n : Int) ∧ b = true) := by
          rcases Nat.lt_or_ge j n with h | h
          · exact .inr ⟨by omega, hend.resolve_left (by omega)⟩
          · exact .inl (by omega)
        clear hend hcas HTT2 HTC HLP
        rcases hgo with hgo | ⟨hgo, rfl⟩
        all_goals
          go_wp2
          have HR7 := Lib.hid (storeL_blk HRE.out (offP k t o) (.slice CA cs.length cc))
          have HK7 := Lib.hid (storeL_keep wr rb (offP k t o) (.slice CA cs.length cc))
          change bodyPost Tryz.prog _ _ _ _ (storeL wr rb (offP k t o) (.slice CA cs.length cc))
          generalize storeL wr rb (offP k t o) (.slice CA cs.length cc) = W7 at *
          obtain ⟨d0, d1, d2, d3, d4, d5, d6, -⟩ := partL_all HR7.out
          have hkk : Keep [g] w W7 := (HKE.out).trans HK7.out (fun x hx => .inr (by simp at hx; subst hx; exact hrw))
          refine bodyPost_ret (v := .tuple #[.agg ((offP k t o).cells (.slice CA cs.length cc)).toArray, .int .i64 (x : Int)]) ?_ rfl ⟨(.slice CA cs.length cc), rfl, (HO.out.lies.keep HK7.out (fun y hy hc => by simp at hy; omega)).mono (fun y hy => ⟨by omega, Nat.lt_of_lt_of_le hy.2 HK7.out.size⟩), HH.out.re hkk (HG.out.keep HK7.out (by simp; omega)), hkk⟩
          simp [results, Tryz.results90, go_sem, d0, d1, d2, d3, d4, d5, d6, offP, PT.cells]
      · rw [not_or] at hend
        obtain rfl : b = false := by simpa using hend.2
        have hjn : j < n := by omega
        have hx3 := hx1 rfl
        obtain ⟨r, hr⟩ : ∃ r, n - j = r + 1 := ⟨n - j - 1, by omega⟩
        have hr2 : n - (j + 1) = r := by omega
        obtain ⟨ky, c1, hky⟩ : ∃ x y, txL B T false (a + 9 + 6 * j) false = (x, y) := ⟨_, _, rfl⟩
        obtain ⟨q, c2, hq⟩ : ∃ x y, nmL B c1 (a + 11 + 6 * j) 4 = (x, y) := ⟨_, _, rfl⟩
        rw [hr, casF, if_neg (by decide)] at hcas
        simp only [hky, hq] at hcas
        have hjI : (j : Int) < (n : Int) := by omega
        have HT1 : Hid (∀ W, LfW W g tv (.slice BA B.length bc) T B false → Calls Tryz.prog 45 #[.pointer (some ⟨g, 0, none⟩), .int .i64 ((a : Int) + 9 + 6 * (j : Int)), .bool false] W fun e w' => e = .returned (.string ky) ∧ LfW w' g tv (.slice BA B.length bc) T B c1 ∧ Keep [g] W w') := fun W h => by
          have := ltx20_any W g tv _ T B false (a + 9 + 6 * j) false h (by omega) hBl
          rw [hky] at this
          exact this
        have HN2 : Hid (∀ W, LfW W g tv (.slice BA B.length bc) T B c1 → Calls Tryz.prog 44 #[.pointer (some ⟨g, 0, none⟩), .int .i64 ((a : Int) + 11 + 6 * (j : Int)), .int .i64 4] W fun e w' => e = .returned (.int .i64 (q : Int)) ∧ LfW w' g tv (.slice BA B.length bc) T B c2 ∧ Keep [g] W w') := fun W h => by
          have := num20_any W g tv _ T B c1 (a + 11 + 6 * j) 4 h ⟨by omega, by omega⟩ (by omega) hBl
          rw [hq] at this
          exact this
        clear hend hky hq hx1
        by_cases hqx : q = x
        · subst hqx
          rw [if_neg (by simp)] at hcas
          obtain ⟨l1, e1', c3, hl1⟩ : ∃ x y z, lfF B T m c2 q = (x, y, z) := ⟨_, _, _, rfl⟩
          obtain ⟨y, c4, hy⟩ : ∃ x y, nmL B c3 e1' 1 = (x, y) := ⟨_, _, rfl⟩
          simp only [hl1, hy] at hcas
          have he1 := lf_le hl1 hx3
          have hqq : ((q : Int) != (q : Int)) = false := by simp
          have HP3 : Hid (∀ W, LfW W g tv (.slice BA B.length bc) T B c2 → Calls Tryz.prog 63 #[.pointer (some ⟨g, 0, none⟩), .int .i64 (q : Int), .int .i64 (m : Int)] W fun e w' => ∃ LA lc, e = .returned (.tuple #[.slice LA l1.length lc, .int .i64 (e1' : Int)]) ∧ OwnL m w' W.heap.size (.slice LA l1.length lc) l1 ∧ LfW w' g tv (.slice BA B.length bc) T B c3 ∧ Keep [g] W w') := fun W h => (HLP.out W g tv _ T B c2 q h hx3 hBl).mono fun e w' hh => by
            rw [hl1] at hh
            obtain ⟨u, h1, h2, h3, h4⟩ := hh
            obtain ⟨LA, lc, rfl⟩ := h2.form
            exact ⟨LA, lc, h1, h2, h3, h4⟩
          have HN4 : Hid (∀ W, LfW W g tv (.slice BA B.length bc) T B c3 → Calls Tryz.prog 44 #[.pointer (some ⟨g, 0, none⟩), .int .i64 (e1' : Int), .int .i64 1] W fun e w' => e = .returned (.int .i64 (y : Int)) ∧ LfW w' g tv (.slice BA B.length bc) T B c4 ∧ Keep [g] W w') := fun W h => by
            have := num20_any W g tv _ T B c3 e1' 1 h ⟨by omega, by omega⟩ (by omega) hBl
            rw [hy] at this
            exact this
          obtain ⟨bb, hbb⟩ : ∃ bb, (if y ≠ 7 then true else c4) = bb := ⟨_, rfl⟩
          rw [hbb] at hcas
          have hgood : bb = false → e1' + 5 ≤ B.length + 4 := fun hf => by
            subst hf
            split at hbb
            · cases hbb
            · have := (nmL_good (B := B) (bad := c3) (a := e1') (n := 1) (by rw [hy]; exact hbb)).2
              omega
          have hyw : (((y : Int) != 7) = false ∧ c4 = bb) ∨ (((y : Int) != 7) = true ∧ bb = true) := by
            by_cases h7 : y = 7
            · left; rw [if_neg (by simpa using h7)] at hbb; exact ⟨by simp; omega, hbb⟩
            · right; rw [if_pos h7] at hbb; exact ⟨by simp; omega, hbb.symm⟩
          have HCAS := Lib.hid hcas
          have HGOOD := Lib.hid hgood
          have hrr := Lib.hid hr2
          clear hl1 hy hcas hgood hbb hr hr2 HTT2 HTC HLP
          rcases hyw with ⟨h7, rfl⟩ | ⟨h7, rfl⟩
          all_goals
            go_upto_region 16 with (first
              | (go_at_call 45; (with_reducible refine (HT1.out _ HF.out).mono ?_); rintro e w1 ⟨rfl, h1, k1⟩; have HF1 := Lib.hid h1; have HK1 := Lib.hid k1; clear h1 k1)
              | (go_at_call 44; (with_reducible refine (HN2.out _ HF1.out).mono ?_); rintro e w2 ⟨rfl, h2, k2⟩; have HF2 := Lib.hid h2; have HK2 := Lib.hid (HK1.out.same k2); clear h2 k2)
              | (go_at_call 63; (with_reducible refine (HP3.out _ HF2.out).mono ?_); rintro e w3 ⟨LA, lc, rfl, hl3, h3, k3⟩; have HL3 := Lib.hid hl3; have HF3 := Lib.hid h3; have HZ3 := Lib.hid k3.size; have HK3 := Lib.hid (HK2.out.same k3); clear hl3 h3 k3)
              | (go_at_call 44; (with_reducible refine (HN4.out _ HF3.out).mono ?_); rintro e w4 ⟨rfl, h4, k4⟩; have f4 : w4.frozen? ⟨g, 2, none⟩ = false := h4.1.frozen 2; have d4 : w4.cell? ⟨g, 2, none⟩ = some (.bool c4) := h4.1.cell_eq rfl; have HF4 := Lib.hid h4.1; have HL4 := Lib.hid (HL3.out.keep k4 (fun x hx => by simp at hx; subst hx; right; have := HK2.out.size; omega)); have HZ4 := Lib.hid (Nat.le_trans HZ3.out k4.size); have HK4 := Lib.hid (HK3.out.same k4); clear h4 k4)
              | fail)
          · have HG5 := HF4
            have HL5 := HL4
            have HK5 := HK4
            have HZ5 := HZ4
            clear HF4 HL4 HK4 HZ4
            have hz2 : wr.heap.size ≤ w2.heap.size := HK2.out.size
            have hzw : w2.heap.size ≤ w4.heap.size := HZ5.out
            have hP5 := HP.out.keep HK5.out (by simp; omega)
            obtain ⟨-, -, -, -, -, -, a6, az⟩ := partL_all hP5
            have HO5 := Lib.hid (HO.out.keep HK5.out (fun x hx => by simp at hx; subst hx; exact .inr hgw))
            have HP5 := Lib.hid hP5
            have hcl' : cs.length ≤ 1000000000 := by omega
            clear hP5
            go_wp2_with (at_builtin; refine wpList_append_k rfl _ _ rfl rfl HO5.out _ rfl (ky, l1) (.slice LA l1.length lc) rfl (fun x => w2.heap.size ≤ x ∧ x < w4.heap.size) (fun x hx => ⟨by omega, hx.2, fun hc => by have := (HO.out.lt x hc).2; omega⟩) rfl HL5.out.lies hcl' (by omega) ?_; intro A6 cap6 w6 ho6 hk6; have hp6 := HP5.out.keep hk6 (fun hc => by have := (HO.out.lt pb hc).1; omega); have y4 : w6.cell? ⟨pb, 6, none⟩ = some (.slice CA cs.length cc) := hp6.cell_eq rfl; have y5 := hp6.frozen 6; have HP6 := Lib.hid hp6; have HO6 := Lib.hid ho6; have HK6 := Lib.hid hk6; clear hp6 ho6 hk6)
            go_roundw
            case rel =>
              have hsc : Keep [pb] w6 (w6.setCell ⟨pb, 6, none⟩ (.slice A6 (cs.length + 1) cap6)) := (Keep.refl _ _).setCell (.inl (by simp)) _
              exact ⟨j + 1, e1' + 5, cs ++ [(ky, l1)], .slice A6 (cs.length + 1) cap6, c4, by omega, by go_num, by go_num, by simp; omega, by simpa [offP, PT.cells] using Blk.set_ HP6.out 6 (.slice A6 (cs.length + 1) cap6), HO6.out.keep hsc (fun x hx => by simp at hx; subst hx; exact .inr hpw5), (HG5.out.keep HK6.out (fun hc => by have := (HO.out.lt g hc).1; omega)).keep hsc (by simp; omega), ((HK.out.trans HK5.out (fun x hx => .inl (by simp at hx; simp [hx]))).trans HK6.out (fun x hx => .inr (HO.out.lt x hx).1)).setCell (.inl (by simp)) _, HGOOD.out, by omega, by rw [hrr.out]; exact HCAS.out⟩
            case measure => simp [intOf]; omega
          · have hS : Keep [g] w4 (w4.setCell ⟨g, 2, none⟩ (.bool true)) := (Keep.refl _ _).setCell (.inl (by simp)) _
            have hgs : Blk (w4.setCell ⟨g, 2, none⟩ (.bool true)) g 94 #[tv, .slice BA B.length bc, .bool true] := by simpa using Blk.set_ HF4.out 2 (.bool true)
            have HG5 := Lib.hid hgs
            have HL5 := Lib.hid (HL4.out.keep hS (fun x hx => by simp at hx; subst hx; right; have := HK2.out.size; omega))
            have HZ5 := Lib.hid (Nat.le_trans HZ4.out hS.size)
            have HK5 := Lib.hid (HK4.out.same hS)
            clear hS hgs HF4 HL4 HK4 HZ4
            generalize w4.setCell ⟨g, 2, none⟩ (.bool true) = W5 at *
            have hz2 : wr.heap.size ≤ w2.heap.size := HK2.out.size
            have hzw : w2.heap.size ≤ W5.heap.size := HZ5.out
            have hP5 := HP.out.keep HK5.out (by simp; omega)
            obtain ⟨-, -, -, -, -, -, a6, az⟩ := partL_all hP5
            have HO5 := Lib.hid (HO.out.keep HK5.out (fun x hx => by simp at hx; subst hx; exact .inr hgw))
            have HP5 := Lib.hid hP5
            have hcl' : cs.length ≤ 1000000000 := by omega
            clear hP5
            go_wp2_with (at_builtin; refine wpList_append_k rfl _ _ rfl rfl HO5.out _ rfl (ky, l1) (.slice LA l1.length lc) rfl (fun x => w2.heap.size ≤ x ∧ x < W5.heap.size) (fun x hx => ⟨by omega, hx.2, fun hc => by have := (HO.out.lt x hc).2; omega⟩) rfl HL5.out.lies hcl' (by omega) ?_; intro A6 cap6 w6 ho6 hk6; have hp6 := HP5.out.keep hk6 (fun hc => by have := (HO.out.lt pb hc).1; omega); have y4 : w6.cell? ⟨pb, 6, none⟩ = some (.slice CA cs.length cc) := hp6.cell_eq rfl; have y5 := hp6.frozen 6; have HP6 := Lib.hid hp6; have HO6 := Lib.hid ho6; have HK6 := Lib.hid hk6; clear hp6 ho6 hk6)
            go_roundw
            case rel =>
              have hsc : Keep [pb] w6 (w6.setCell ⟨pb, 6, none⟩ (.slice A6 (cs.length + 1) cap6)) := (Keep.refl _ _).setCell (.inl (by simp)) _
              exact ⟨j + 1, e1' + 5, cs ++ [(ky, l1)], .slice A6 (cs.length + 1) cap6, true, by omega, by go_num, by go_num, by simp; omega, by simpa [offP, PT.cells] using Blk.set_ HP6.out 6 (.slice A6 (cs.length + 1) cap6), HO6.out.keep hsc (fun x hx => by simp at hx; subst hx; exact .inr hpw5), (HG5.out.keep HK6.out (fun hc => by have := (HO.out.lt g hc).1; omega)).keep hsc (by simp; omega), ((HK.out.trans HK5.out (fun x hx => .inl (by simp at hx; simp [hx]))).trans HK6.out (fun x hx => .inr (HO.out.lt x hx).1)).setCell (.inl (by simp)) _, HGOOD.out, by omega, by rw [hrr.out]; exact HCAS.out⟩
            case measure => simp [intOf]; omega
        · rw [if_pos hqx] at hcas
          subst hcas
          have hTT := HTT2.out
          simp only at hTT
          subst hTT
          have hqq : ((q : Int) != (x : Int)) = true := by simp; omega
          clear HTT2 HTC HLP hr hr2 hqx
          go_upto_region 18 with (first
            | (go_at_call 45; (with_reducible refine (HT1.out _ HF.out).mono ?_); rintro e w1 ⟨rfl, h1, k1⟩; have HF1 := Lib.hid h1; have HK1 := Lib.hid k1; clear h1 k1)
            | (go_at_call 44; (with_reducible refine (HN2.out _ HF1.out).mono ?_); rintro e w2 ⟨rfl, h2, k2⟩; have d4 : w2.cell? ⟨g, 2, none⟩ = some (.bool c2) := h2.1.cell_eq rfl; have f4 : w2.frozen? ⟨g, 2, none⟩ = false := h2.1.frozen 2; have HF2 := Lib.hid h2.1; have HK2 := Lib.hid (HK1.out.same k2); clear h2 k2)
            | fail)
          have hS : Keep [g] w2 (w2.setCell ⟨g, 2, none⟩ (.bool true)) := (Keep.refl _ _).setCell (.inl (by simp)) _
          have hgs : Blk (w2.setCell ⟨g, 2, none⟩ (.bool true)) g 94 #[tv, .slice BA B.length bc, .bool true] := by simpa using Blk.set_ HF2.out 2 (.bool true)
          have HG5 := Lib.hid hgs
          have HKw := Lib.hid (HK2.out.same hS)
          clear hS hgs HF2 HK2
          generalize w2.setCell ⟨g, 2, none⟩ (.bool true) = W5 at *
          have hP5 := HP.out.keep HKw.out (by simp; omega)
          have hR5 := HRE.out.keep HKw.out (by simp; omega)
          obtain ⟨a0, a1, a2, a3, a4, a5, a6, -⟩ := partL_all hP5
          obtain ⟨b0, b1, b2, b3, b4, b5, b6, bz⟩ := partL_all hR5
          have HO5 := Lib.hid (HO.out.keep HKw.out (fun x hx => by simp at hx; subst hx; exact .inr hgw))
          clear HRE
          have HRE := Lib.hid hR5
          clear hP5 hR5
          go_wp2
          have HR7 := Lib.hid (storeL_blk HRE.out (offP k t o) (.slice CA cs.length cc))
          have HK7 := Lib.hid (storeL_keep W5 rb (offP k t o) (.slice CA cs.length cc))
          change bodyPost Tryz.prog _ _ _ _ (storeL W5 rb (offP k t o) (.slice CA cs.length cc))
          generalize storeL W5 rb (offP k t o) (.slice CA cs.length cc) = W7 at *
          obtain ⟨d0, d1, d2, d3, d4, d5, d6, -⟩ := partL_all HR7.out
          have hkk : Keep [g] w W7 := (HKE.out.same HKw.out).trans HK7.out (fun x hx => .inr (by simp at hx; subst hx; exact hrw))
          refine bodyPost_ret (v := .tuple #[.agg ((offP k t o).cells (.slice CA cs.length cc)).toArray, .int .i64 (x : Int)]) ?_ rfl ⟨(.slice CA cs.length cc), rfl, (HO5.out.lies.keep HK7.out (fun y hy hc => by simp at hy; omega)).mono (fun y hy => ⟨by omega, Nat.lt_of_lt_of_le hy.2 HK7.out.size⟩), HH.out.re hkk (HG5.out.keep HK7.out (by simp; omega)), hkk⟩
          simp [results, Tryz.results90, go_sem, d0, d1, d2, d3, d4, d5, d6, offP, PT.cells]
end Go.Proofs.YtmfoiceofhcicaaGreatDoor

namespace Go.Proofs.YtmfoiceofhcicaaGreatDoor
open Go.RowKit Go.IntWalk

theorem ptF_bad (B : List UInt8) (T : List ByteArray) (C : Bool → Nat → PT × Nat × Bool) (f a : Nat) (acc : List PT) : ptF B T C f true a acc = ([], 0, true) := by cases f <;> rfl
set_option maxRecDepth 100000 in
set_option maxHeartbeats 8000000 in
theorem partsL_step (d : Nat) (ih : LcC d) : LpC d := by
  intro w g tv bv T B bad a h ha hBl
  rw [lfF_eq]
  obtain ⟨TT, hTT⟩ : ∃ TT, ptF B T (lcF B T d) (B.length + 11) bad a [] = TT := ⟨_, rfl⟩
  rw [hTT]
  have HIH := Lib.hid ih
  have HH := Lib.hid h
  have HTT := Lib.hid hTT
  have hg := h.1.lt
  clear ih h hTT
  go_enter Tryz.func63, Tryz.ntmps63
  go_wp2
  go_loopg [1, 8] (B.length + 11) (fun gk av lv wr => ∃ (x : Nat) (acc : List PT) (b : Bool), av = .int .i64 x ∧ OwnL d wr w.heap.size lv acc ∧ acc.length + gk ≤ B.length + 11 ∧ Blk wr g 94 #[tv, bv, .bool b] ∧ Keep [g] w wr ∧ (b = false → x ≤ B.length + 4 ∧ B.length + 11 ≤ x + gk) ∧ ptF B T (lcF B T d) gk b x acc = TT)
  case atStart => exact ⟨a, [], bad, rfl, OwnL.nil _ _ _, by simp, HH.out.1, Keep.refl _ _, fun _ => ⟨ha, by omega⟩, HTT.out⟩
  case round =>
    obtain ⟨x, acc, b, rfl, hL, hal, hG, hK, hx, hpt⟩ := hrel
    obtain ⟨LA, lc, rfl⟩ := hL.form
    have hF := HH.out.re hK hG
    have hal' : acc.length ≤ 1000000000 := by omega
    have hzr : w.heap.size ≤ wr.heap.size := hK.size
    have HAL := Lib.hid hal
    clear hal
    have d2 : wr.cell? ⟨g, 2, none⟩ = some (.bool b) := hG.cell_eq rfl
    have f2 : wr.frozen? ⟨g, 2, none⟩ = false := hG.frozen 2
    have HL := Lib.hid hL
    have HF := Lib.hid hF
    have HK := Lib.hid hK
    clear hL hF hG hK
    cases b with
    | true =>
      rw [ptF_bad] at hpt
      subst hpt
      go_wp2
      go_ret2
      exact ⟨_, rfl, OwnL.nil _ _ _, HF.out, HK.out⟩
    | false =>
      obtain ⟨hx1, hx2⟩ := hx rfl
      obtain ⟨f, rfl⟩ : ∃ f, gk = f + 1 := ⟨gk - 1, by omega⟩
      obtain ⟨y, c0, hy⟩ : ∃ y c, nmL B false x 1 = (y, c) := ⟨_, _, rfl⟩
      obtain ⟨yi, hyi⟩ : ∃ yi : Int, ((y : Nat) : Int) = yi := ⟨_, rfl⟩
      unfold ptF at hpt
      rw [if_neg (by decide)] at hpt
      simp only [hy] at hpt
      have HN : Hid (∀ W, LfW W g tv bv T B false → Calls Tryz.prog 44 #[.pointer (some ⟨g, 0, none⟩), .int .i64 (x : Int), .int .i64 1] W fun e w' => e = .returned (.int .i64 yi) ∧ LfW w' g tv bv T B c0 ∧ Keep [g] W w') := fun W h => by
        have := num20_any W g tv bv T B false x 1 h ⟨by omega, by omega⟩ (by omega) hBl
        rw [hy] at this
        rw [← hyi]
        exact this
      clear hx hy
      by_cases hy1 : y = 1
      · rw [if_pos hy1] at hpt
        obtain rfl : yi = 1 := by omega
        obtain ⟨t1, c1, ht1⟩ : ∃ t c, txL B T c0 (x + 1) false = (t, c) := ⟨_, _, rfl⟩
        simp only [ht1] at hpt
        have HT1 : Hid (∀ W, LfW W g tv bv T B c0 → Calls Tryz.prog 45 #[.pointer (some ⟨g, 0, none⟩), .int .i64 ((x : Int) + 1), .bool false] W fun e w' => e = .returned (.string t1) ∧ LfW w' g tv bv T B c1 ∧ Keep [g] W w') := fun W h => by
          have := ltx20_any W g tv bv T B c0 (x + 1) false h (by omega) hBl
          rw [ht1] at this
          exact this
        have HPT := Lib.hid hpt
        clear hpt hyi hy1
        go_wp2_with (first
          | (go_at_call 44; (with_reducible refine (HN.out _ HF.out).mono ?_); rintro e w1 ⟨rfl, h1, k1⟩; have f3 : w1.frozen? ⟨g, 2, none⟩ = false := h1.1.frozen 2; have d3 : w1.cell? ⟨g, 2, none⟩ = some (.bool c0) := h1.1.cell_eq rfl; have HF1 := Lib.hid h1; have HK1 := Lib.hid k1; clear h1 k1)
          | (go_at_call 45; (with_reducible refine (HT1.out _ HF1.out).mono ?_); rintro e w2 ⟨rfl, h, k⟩; have HL2 := Lib.hid (HL.out.keep (HK1.out.same k) (fun y hy => by simp at hy; subst hy; exact .inr hg)); have hB2 : w.heap.size ≤ w2.heap.size := Nat.le_trans hzr (HK1.out.same k).size; have HF2 := Lib.hid h; have HK2 := Lib.hid (HK1.out.same k); clear h k)
          | (at_builtin; refine wpList_append_l rfl _ _ rfl rfl HL2.out _ rfl (textP t1) (.slice none 0 0) rfl (fun x => False) (fun x hx => hx.elim) rfl (LiesC.nil _ _ _) hal' hB2 ?_; intro A' cap' w9 ho' hk'; have HO9 := Lib.hid ho'; have HK9 := Lib.hid hk'; clear ho' hk')
          | fail)
        go_roundg f
        case measure => omega
        case rel => exact ⟨x + 3, acc ++ [(textP t1)], c1, by go_num, by simpa using HO9.out, by have := HAL.out; simp; omega, HF2.out.1.keep HK9.out (fun hc => by have := (HL.out.lt g hc).1; omega), (HK.out.same HK2.out).trans HK9.out (fun x hx => .inr (HL.out.lt x hx).1), fun hf => by have := (txL_good (B := B) (T := T) (by rw [ht1]; exact hf)).2; omega, HPT.out⟩
      rw [if_neg hy1] at hpt
      have e1 : (yi == 1) = false := by simp; omega
      by_cases hy2 : y = 2
      · rw [if_pos hy2] at hpt
        obtain rfl : yi = 2 := by omega
        obtain ⟨t1, c1, ht1⟩ : ∃ t c, txL B T c0 (x + 1) false = (t, c) := ⟨_, _, rfl⟩
        simp only [ht1] at hpt
        have HT1 : Hid (∀ W, LfW W g tv bv T B c0 → Calls Tryz.prog 45 #[.pointer (some ⟨g, 0, none⟩), .int .i64 ((x : Int) + 1), .bool false] W fun e w' => e = .returned (.string t1) ∧ LfW w' g tv bv T B c1 ∧ Keep [g] W w') := fun W h => by
          have := ltx20_any W g tv bv T B c0 (x + 1) false h (by omega) hBl
          rw [ht1] at this
          exact this
        have HPT := Lib.hid hpt
        clear hpt hyi hy2 e1
        go_wp2_with (first
          | (go_at_call 44; (with_reducible refine (HN.out _ HF.out).mono ?_); rintro e w1 ⟨rfl, h1, k1⟩; have f3 : w1.frozen? ⟨g, 2, none⟩ = false := h1.1.frozen 2; have d3 : w1.cell? ⟨g, 2, none⟩ = some (.bool c0) := h1.1.cell_eq rfl; have HF1 := Lib.hid h1; have HK1 := Lib.hid k1; clear h1 k1)
          | (go_at_call 45; (with_reducible refine (HT1.out _ HF1.out).mono ?_); rintro e w2 ⟨rfl, h, k⟩; have HL2 := Lib.hid (HL.out.keep (HK1.out.same k) (fun y hy => by simp at hy; subst hy; exact .inr hg)); have hB2 : w.heap.size ≤ w2.heap.size := Nat.le_trans hzr (HK1.out.same k).size; have HF2 := Lib.hid h; have HK2 := Lib.hid (HK1.out.same k); clear h k)
          | (at_builtin; refine wpList_append_l rfl _ _ rfl rfl HL2.out _ rfl hashP (.slice none 0 0) rfl (fun x => False) (fun x hx => hx.elim) rfl (LiesC.nil _ _ _) hal' hB2 ?_; intro A' cap' w9 ho' hk'; have HO9 := Lib.hid ho'; have HK9 := Lib.hid hk'; clear ho' hk')
          | fail)
        go_roundg f
        case measure => omega
        case rel => exact ⟨x + 7, acc ++ [hashP], c1, by go_num, by simpa using HO9.out, by have := HAL.out; simp; omega, HF2.out.1.keep HK9.out (fun hc => by have := (HL.out.lt g hc).1; omega), (HK.out.same HK2.out).trans HK9.out (fun x hx => .inr (HL.out.lt x hx).1), fun hf => by have := (txL_good (B := B) (T := T) (by rw [ht1]; exact hf)).2; omega, HPT.out⟩
      rw [if_neg hy2] at hpt
      have e2 : (yi == 2) = false := by simp; omega
      by_cases hy3 : y = 3
      · rw [if_pos hy3] at hpt
        obtain rfl : yi = 3 := by omega
        obtain ⟨t1, c1, ht1⟩ : ∃ t c, txL B T c0 (x + 1) false = (t, c) := ⟨_, _, rfl⟩
        simp only [ht1] at hpt
        have HT1 : Hid (∀ W, LfW W g tv bv T B c0 → Calls Tryz.prog 45 #[.pointer (some ⟨g, 0, none⟩), .int .i64 ((x : Int) + 1), .bool false] W fun e w' => e = .returned (.string t1) ∧ LfW w' g tv bv T B c1 ∧ Keep [g] W w') := fun W h => by
          have := ltx20_any W g tv bv T B c0 (x + 1) false h (by omega) hBl
          rw [ht1] at this
          exact this
        obtain ⟨t2, c2, ht2⟩ : ∃ t c, txL B T c1 (x + 3) true = (t, c) := ⟨_, _, rfl⟩
        simp only [ht2] at hpt
        have HT2 : Hid (∀ W, LfW W g tv bv T B c1 → Calls Tryz.prog 45 #[.pointer (some ⟨g, 0, none⟩), .int .i64 ((x : Int) + 3), .bool true] W fun e w' => e = .returned (.string t2) ∧ LfW w' g tv bv T B c2 ∧ Keep [g] W w') := fun W h => by
          have := ltx20_any W g tv bv T B c1 (x + 3) true h (by omega) hBl
          rw [ht2] at this
          exact this
        obtain ⟨t3, c3, ht3⟩ : ∃ t c, txL B T c2 (x + 5) true = (t, c) := ⟨_, _, rfl⟩
        simp only [ht3] at hpt
        have HT3 : Hid (∀ W, LfW W g tv bv T B c2 → Calls Tryz.prog 45 #[.pointer (some ⟨g, 0, none⟩), .int .i64 ((x : Int) + 5), .bool true] W fun e w' => e = .returned (.string t3) ∧ LfW w' g tv bv T B c3 ∧ Keep [g] W w') := fun W h => by
          have := ltx20_any W g tv bv T B c2 (x + 5) true h (by omega) hBl
          rw [ht3] at this
          exact this
        have HPT := Lib.hid hpt
        clear hpt hyi hy3 e1 e2
        go_wp2_with (first
          | (go_at_call 44; (with_reducible refine (HN.out _ HF.out).mono ?_); rintro e w1 ⟨rfl, h1, k1⟩; have f3 : w1.frozen? ⟨g, 2, none⟩ = false := h1.1.frozen 2; have d3 : w1.cell? ⟨g, 2, none⟩ = some (.bool c0) := h1.1.cell_eq rfl; have HF1 := Lib.hid h1; have HK1 := Lib.hid k1; clear h1 k1)
          | (go_at_call 45; (with_reducible refine (HT1.out _ HF1.out).mono ?_); rintro e w2 ⟨rfl, h, k⟩; have HF2 := Lib.hid h; have HK2 := Lib.hid (HK1.out.same k); clear h k)
          | (go_at_call 45; (with_reducible refine (HT2.out _ HF2.out).mono ?_); rintro e w3 ⟨rfl, h, k⟩; have HF3 := Lib.hid h; have HK3 := Lib.hid (HK2.out.same k); clear h k)
          | (go_at_call 45; (with_reducible refine (HT3.out _ HF3.out).mono ?_); rintro e w4 ⟨rfl, h, k⟩; have HL4 := Lib.hid (HL.out.keep (HK3.out.same k) (fun y hy => by simp at hy; subst hy; exact .inr hg)); have hB4 : w.heap.size ≤ w4.heap.size := Nat.le_trans hzr (HK3.out.same k).size; have HF4 := Lib.hid h; have HK4 := Lib.hid (HK3.out.same k); clear h k)
          | (at_builtin; refine wpList_append_l rfl _ _ rfl rfl HL4.out _ rfl (⟨3, ⟨#[]⟩, t1, t2, t3, 0, []⟩ : PT) (.slice none 0 0) rfl (fun x => False) (fun x hx => hx.elim) rfl (LiesC.nil _ _ _) hal' hB4 ?_; intro A' cap' w9 ho' hk'; have HO9 := Lib.hid ho'; have HK9 := Lib.hid hk'; clear ho' hk')
          | fail)
        go_roundg f
        case measure => omega
        case rel => exact ⟨x + 7, acc ++ [(⟨3, ⟨#[]⟩, t1, t2, t3, 0, []⟩ : PT)], c3, by go_num, by simpa using HO9.out, by have := HAL.out; simp; omega, HF4.out.1.keep HK9.out (fun hc => by have := (HL.out.lt g hc).1; omega), (HK.out.same HK4.out).trans HK9.out (fun x hx => .inr (HL.out.lt x hx).1), fun hf => by have := (txL_good (B := B) (T := T) (by rw [ht3]; exact hf)).2; omega, HPT.out⟩
      rw [if_neg hy3] at hpt
      have e3 : (yi == 3) = false := by simp; omega
      by_cases hy4 : y = 4 ∨ y = 5 ∨ y = 6
      · rw [if_pos hy4] at hpt
        obtain ⟨p, e0, c1, hp⟩ : ∃ p e c, lcF B T d c0 x = (p, e, c) := ⟨_, _, _, rfl⟩
        simp only [hp] at hpt
        have hle := lc_le d c0 x p e0 c1 hp
        have hge : c1 = false → x + 9 ≤ e0 := fun hc => lc_ge (by rw [hp, hc])
        have HC : Hid (∀ W, LfW W g tv bv T B c0 → Calls Tryz.prog 90 #[.pointer (some ⟨g, 0, none⟩), .int .i64 (x : Int), .int .i64 d] W fun e w' => ∃ CA cm cc, e = .returned (.tuple #[.agg #[.int .i64 p.k, .string p.tx, .string p.nm, .string p.ty, .string p.st, .int .i64 p.off, .slice CA cm cc], .int .i64 (e0 : Int)]) ∧ LiesC d (fun y => W.heap.size ≤ y ∧ y < w'.heap.size) w' (.slice CA cm cc) p.cs ∧ LfW w' g tv bv T B c1 ∧ Keep [g] W w') := fun W h => (HIH.out W g tv bv T B c0 x h hx1 hBl).mono fun e w' hh => by
          rw [hp] at hh
          obtain ⟨u, h1, h2, h3, h4⟩ := hh
          obtain ⟨CA, cc, rfl, -⟩ := liesC_open h2
          exact ⟨CA, _, cc, h1, h2, h3, h4⟩
        have HPT := Lib.hid hpt
        have HGE := Lib.hid hge
        have HLE := Lib.hid hle.2
        have hle1 := hle.1
        have hways : (yi = 4) ∨ (yi = 5) ∨ (yi = 6) := by omega
        clear hpt hp hle hge hyi hy1 hy2 hy3 hy4 e1 e2 e3
        rcases hways with rfl | rfl | rfl
        all_goals
          go_upto_region 18 with (first
            | (go_at_call 44; (with_reducible refine (HN.out _ HF.out).mono ?_); rintro e w1 ⟨rfl, h1, k1⟩; have f3 : w1.frozen? ⟨g, 2, none⟩ = false := h1.1.frozen 2; have d3 : w1.cell? ⟨g, 2, none⟩ = some (.bool c0) := h1.1.cell_eq rfl; have HF1 := Lib.hid h1; have HK1 := Lib.hid k1; clear h1 k1)
            | fail)
          go_upto_region 19 with (first
            | (go_at_call 90; (with_reducible refine (HC.out _ HF1.out).mono ?_); rintro e w2 ⟨CA, cm, cc, rfl, hl2, h2, k2⟩; have HL2 := Lib.hid (HL.out.keep (HK1.out.same k2) (fun y hy => by simp at hy; subst hy; exact .inr hg)); have HLC := Lib.hid hl2; have HF2 := Lib.hid h2; have HK2 := Lib.hid (HK1.out.same k2); clear hl2 h2 k2)
            | fail)
          have hz1 : w.heap.size ≤ w1.heap.size := Nat.le_trans hzr HK1.out.size
          have hz1r : wr.heap.size ≤ w1.heap.size := HK1.out.size
          have hzz : w.heap.size ≤ w2.heap.size := Nat.le_trans hzr HK2.out.size
          have hka : Keep [] w2 (w2.alloc (.cells #[.int .i64 p.k, .string p.tx, .string p.nm, .string p.ty, .string p.st, .int .i64 p.off, .slice CA cm cc] 68)) := (Keep.refl _ _).alloc _
          have hX : Blk (w2.alloc (.cells #[.int .i64 p.k, .string p.tx, .string p.nm, .string p.ty, .string p.st, .int .i64 p.off, .slice CA cm cc] 68)) w2.heap.size 68 (p.cells (.slice CA cm cc)).toArray := Blk.new _ _ _
          have HL3 := Lib.hid (HL2.out.keep hka (by simp))
          have HLC3 := Lib.hid (HLC.out.keep hka (by simp))
          have HF3 := Lib.hid (HF2.out.to hka)
          have HK3 := Lib.hid (HK2.out.nil hka)
          have hz3 : w2.heap.size ≤ (w2.alloc (.cells #[.int .i64 p.k, .string p.tx, .string p.nm, .string p.ty, .string p.st, .int .i64 p.off, .slice CA cm cc] 68)).heap.size := hka.size
          generalize w2.alloc (.cells #[.int .i64 p.k, .string p.tx, .string p.nm, .string p.ty, .string p.st, .int .i64 p.off, .slice CA cm cc] 68) = w3 at *
          obtain ⟨q, hq⟩ : ∃ q, w2.heap.size = q := ⟨_, rfl⟩
          rw [hq] at hX ⊢
          obtain ⟨a0, a1, a2, a3, a4, a5, a6, -⟩ := partL_all hX
          have hB3 : w.heap.size ≤ w3.heap.size := by omega
          clear hka hX hq
          go_wp2_with (first
            | (at_builtin; refine wpList_append_l rfl _ _ rfl rfl HL3.out _ rfl p (.slice CA cm cc) rfl (fun y => w1.heap.size ≤ y ∧ y < w2.heap.size) (fun y hy => ⟨by omega, by omega, fun hc => by have := (HL.out.lt y hc).2; omega⟩) rfl HLC3.out hal' hB3 ?_; intro A' cap' w9 ho' hk'; have HO9 := Lib.hid ho'; have HK9 := Lib.hid hk'; clear ho' hk')
            | fail)
          go_roundg f
          case measure => omega
          case rel => exact ⟨e0, acc ++ [p], c1, rfl, by simpa using HO9.out, by have := HAL.out; simp; omega, HF3.out.1.keep HK9.out (fun hc => by have := (HL.out.lt g hc).1; omega), (HK.out.same HK3.out).trans HK9.out (fun x hx => .inr (HL.out.lt x hx).1), fun hf => by have h1 := HLE.out hf; have h2 := HGE.out hf; omega, HPT.out⟩
      rw [if_neg hy4] at hpt
      have e4 : (yi == 4) = false := by simp; omega
      have e5 : (yi == 5) = false := by simp; omega
      have e6 : (yi == 6) = false := by simp; omega
      by_cases hy7 : y = 7 ∨ y = 0
      · rw [if_pos hy7] at hpt
        subst hpt
        have hways : (yi = 7) ∨ (yi = 0) := by omega
        clear hyi hy1 hy2 hy3 hy4 hy7 e1 e2 e3 e4 e5 e6
        rcases hways with rfl | rfl
        all_goals
          go_wp2_with (first
            | (go_at_call 44; (with_reducible refine (HN.out _ HF.out).mono ?_); rintro e w1 ⟨rfl, h1, k1⟩; have f3 : w1.frozen? ⟨g, 2, none⟩ = false := h1.1.frozen 2; have d3 : w1.cell? ⟨g, 2, none⟩ = some (.bool c0) := h1.1.cell_eq rfl; have HF1 := Lib.hid h1; have HK1 := Lib.hid k1; clear h1 k1)
            | fail)
          go_ret2
          exact ⟨_, rfl, HL.out.keep HK1.out (fun y hy => by simp at hy; subst hy; exact .inr hg), HF1.out, HK.out.same HK1.out⟩
      · rw [if_neg hy7] at hpt
        subst hpt
        have e7 : (yi == 7) = false := by simp; omega
        have e0 : (yi == 0) = false := by simp; omega
        clear hyi hy1 hy2 hy3 hy4 hy7
        go_wp2_with (first
          | (go_at_call 44; (with_reducible refine (HN.out _ HF.out).mono ?_); rintro e w1 ⟨rfl, h1, k1⟩; have f3 : w1.frozen? ⟨g, 2, none⟩ = false := h1.1.frozen 2; have d3 : w1.cell? ⟨g, 2, none⟩ = some (.bool c0) := h1.1.cell_eq rfl; have HF1 := Lib.hid h1; have HK1 := Lib.hid k1; clear h1 k1)
          | fail)
        have hS : Keep [g] w1 (w1.setCell ⟨g, 2, none⟩ (.bool true)) := (Keep.refl _ _).setCell (.inl (by simp)) _
        have hgs : Blk (w1.setCell ⟨g, 2, none⟩ (.bool true)) g 94 #[tv, bv, .bool true] := by simpa using Blk.set_ HF1.out.1 2 (.bool true)
        go_roundg f
        case measure => omega
        case rel => exact ⟨x, acc, true, rfl, (HL.out.keep (HK1.out.same hS) (fun y hy => by simp at hy; subst hy; exact .inr hg)), by have := HAL.out; omega, hgs, (HK.out.same HK1.out).same hS, fun hf => (by cases hf), ptF_bad _ _ _ _ _ _⟩
/-- Parts and choices, at every depth. -/
theorem lifter_all : ∀ d, d ≤ 100 → LcC d ∧ LpC d
  | 0, h => by
    have h0 := choiceL_step 0 h (fun m hm => by omega)
    exact ⟨h0, partsL_step 0 h0⟩
  | d + 1, h => by
    have h0 := choiceL_step (d + 1) h (fun m hm => by
      obtain rfl : m = d := by omega
      exact (lifter_all m (by omega)).2)
    exact ⟨h0, partsL_step (d + 1) h0⟩
end Go.Proofs.YtmfoiceofhcicaaGreatDoor

namespace Go.Proofs.YtmfoiceofhcicaaGreatDoor
open Go.RowKit Go.IntWalk

theorem RdC.lt {S : Nat → Prop} {w : World} {v : Value} {n : Nat} {xs : List Value} (h : RdC S w v n xs) : RdC (fun x => x < w.heap.size) w v n xs := by
  obtain ⟨A, cap, rfl, h1, h2, h3⟩ := h
  refine ⟨A, cap, rfl, h1, h2, fun hn => ?_⟩
  obtain ⟨b, o, rfl, -, hlt, hc⟩ := h3 hn
  exact ⟨b, o, rfl, hlt, hlt, hc⟩
theorem nmL_zero {B : List UInt8} {bad : Bool} {a n : Nat} (h : (nmL B bad a n).2 = true) : (nmL B bad a n).1 = 0 := by
  unfold nmL at h ⊢
  split
  · rfl
  · rename_i hn
    rw [if_neg hn] at h
    cases h
theorem lies_none (w : World) (B : Nat) : Lies 10 (fun x => B ≤ x ∧ x < w.heap.size) w (.slice none 0 0) [] := (OwnL.nil 9 w B).lies
set_option maxRecDepth 100000 in
set_option maxHeartbeats 8000000 in
/-- Lift. -/
theorem clift20_any (w : World) (v : Value) (b : List UInt8) (h : RdU w v b) (hl : b.length ≤ 4000) :
    Calls Tryz.prog 41 #[v] w fun e w' => ∃ u, e = .returned (.tuple #[u, .bool (liftR b).2]) ∧ Lies 10 (fun x => w.heap.size ≤ x ∧ x < w'.heap.size) w' u (liftR b).1 ∧ Keep [] w w' := by
  obtain ⟨TT, hTT⟩ : ∃ TT, liftR b = TT := ⟨_, rfl⟩
  rw [hTT]
  unfold liftR at hTT
  obtain ⟨N9, h9⟩ : ∃ n : Nat, 9 = n := ⟨9, rfl⟩
  rw [h9] at hTT
  have H10 : Hid (N9 + 1 = 10) := by unfold Hid; omega
  clear h9
  obtain ⟨n0, c0, hn0⟩ : ∃ x y, nmL b false 0 2 = (x, y) := ⟨_, _, rfl⟩
  simp only [hn0] at hTT
  have hn1 : n0 < 65536 := by have := nmL_val (B := b) (bad := false) (a := 0) (n := 2); rw [hn0] at this; simpa using this
  have hR := RdC.lt h
  obtain ⟨BA, bc, rfl, -⟩ := id h
  obtain ⟨g, hg⟩ : ∃ g, w.heap.size = g := ⟨_, rfl⟩
  have hG0 : Blk (w.alloc (.cells #[.slice none 0 0, .slice BA b.length bc, .bool false] 94)) w.heap.size 94 #[.slice none 0 0, .slice BA b.length bc, .bool false] := Blk.new _ _ _
  have hK0 : Keep [] w (w.alloc (.cells #[.slice none 0 0, .slice BA b.length bc, .bool false] 94)) := (Keep.refl _ _).alloc _
  have hz0 : (w.alloc (.cells #[.slice none 0 0, .slice BA b.length bc, .bool false] 94)).heap.size = w.heap.size + 1 := by simp
  rw [hg] at hR hG0 hz0
  have HTT := Lib.hid hTT
  have HR := Lib.hid hR
  clear h hTT hR
  go_enter Tryz.func41, Tryz.ntmps41
  go_upto_region 2 with fail
  generalize w.alloc (.cells #[.slice none 0 0, .slice BA b.length bc, .bool false] 94) = W0 at *
  have hR0 : RdC (fun x => x < g) W0 (.slice BA b.length bc) b.length (b.map cellU) := HR.out.keep hK0 (by simp)
  have hL0 : LfW W0 g (.slice none 0 0) (.slice BA b.length bc) [] b false := ⟨hG0, RdC.nil _ _, hR0.mono (fun x hx => by omega)⟩
  have HG := Lib.hid hg
  have HK0 := Lib.hid hK0
  have HZ0 := Lib.hid hz0
  have HR0 := Lib.hid hR0
  have HN0 := Lib.hid (num20_any W0 g _ _ [] b false 0 2 hL0 ⟨by omega, by omega⟩ (by omega) (by omega))
  rw [hn0] at HN0
  clear hg hG0 hK0 hz0 hR0 hL0 HR
  cases c0 with
  | true =>
    have hz : n0 = 0 := by have := nmL_zero (B := b) (bad := false) (a := 0) (n := 2) (by rw [hn0]); rw [hn0] at this; exact this
    subst hz
    have hTT := HTT.out
    rw [if_pos rfl] at hTT
    subst hTT
    clear hn0 HTT
    go_upto_region 5 with (first
      | (go_at_call 44; refine HN0.out.mono ?_; rintro e w1 ⟨rfl, h1, k1⟩; have HF1 := Lib.hid h1; have HK1 := Lib.hid (HK0.out.trans k1 (fun x hx => .inr (by simp at hx; have := HG.out; omega))); have HN2 := Lib.hid (num20_any w1 g _ _ [] b true 2 4 h1 ⟨by omega, by omega⟩ (by omega) (by omega)); rw [show nmL b true 2 4 = (0, true) by (unfold nmL; rw [if_pos (.inl rfl)])] at HN2; clear h1 k1)
      | fail)
    go_loopw [6, 7] (fun av iv wr => av = .int .i64 2 ∧ iv = .int .i64 0 ∧ wr = w1) (fun _ _ _ => 0)
    case atStart => exact ⟨rfl, rfl, rfl⟩
    case round =>
      obtain ⟨rfl, rfl, rfl⟩ := hrel
      go_wp2_with (first
        | (go_at_call 44; refine HN2.out.mono ?_; rintro e w2 ⟨rfl, h2, k2⟩; have d2 : w2.cell? ⟨g, 2, none⟩ = some (.bool true) := h2.1.cell_eq rfl; have HK2 := Lib.hid (HK1.out.trans k2 (fun x hx => .inr (by simp at hx; have := HG.out; omega))); clear h2 k2)
        | fail)
      go_ret2
      exact ⟨_, rfl, lies_none _ _, HK2.out⟩
  | false =>
    have h2b : 2 ≤ b.length := by have := (nmL_good (B := b) (bad := false) (a := 0) (n := 2) (by rw [hn0])).2; omega
    obtain ⟨BB, bo, rfl⟩ : ∃ BB bo, BA = some ⟨BB, bo, none⟩ := by
      obtain ⟨A', c', he, -, -, hc⟩ := HR0.out
      injection he with he1
      subst he1
      obtain ⟨x, y, hx, -⟩ := hc (by omega)
      exact ⟨x, y, hx⟩
    have hTT := HTT.out
    rw [if_neg (by decide)] at hTT
    obtain ⟨PP, hPP⟩ : ∃ PP, poolL b n0 2 [] = PP := ⟨_, rfl⟩
    rw [hPP] at hTT
    have HPP := Lib.hid hPP
    clear HTT
    have HTT := Lib.hid hTT
    clear hn0 hTT hPP
    go_upto_region 5 with (first
      | (go_at_call 44; refine HN0.out.mono ?_; rintro e w1 ⟨rfl, h1, k1⟩; have HG1 := Lib.hid h1.1; have HK1 := Lib.hid k1; clear h1 k1)
      | fail)
    go_loopw [6, 7] (fun av iv wr => ∃ (j a : Nat) (acc : List ByteArray) (tv : Value), j ≤ n0 ∧ av = .int .i64 a ∧ iv = .int .i64 j ∧ OwnS wr (g + 1) tv acc ∧ Blk wr g 94 #[tv, .slice (some ⟨BB, bo, none⟩) b.length bc, .bool false] ∧ Keep [g] W0 wr ∧ acc.length = j ∧ a ≤ b.length ∧ poolL b (n0 - j) a acc = PP) (fun _ iv _ => n0 - (intOf iv).toNat)
    case atStart => exact ⟨0, 2, [], .slice none 0 0, Nat.zero_le _, rfl, rfl, OwnS.nil _ _, HG1.out, HK1.out, rfl, h2b, HPP.out⟩
    case round =>
      obtain ⟨j, a, acc, tv, hj, rfl, rfl, hO, hG, hK, hal, hab, hpool⟩ := hrel
      obtain ⟨TA, tc, rfl⟩ := hO.form
      have hRr : RdC (fun x => x < g) wr (.slice (some ⟨BB, bo, none⟩) b.length bc) b.length (b.map cellU) := HR0.out.keep hK (fun x hx => by simp at hx; omega)
      have hF : LfW wr g (.slice TA acc.length tc) (.slice (some ⟨BB, bo, none⟩) b.length bc) acc b false := ⟨hG, RdC.mono (RdC.of_own (by simp) hO (fun x hx => (hO.lt x hx).1)) (fun x hx => by omega), hRr.mono (fun x hx => by omega)⟩
      have d2 : wr.cell? ⟨g, 2, none⟩ = some (.bool false) := hG.cell_eq rfl
      have hKw : Keep [] w wr := HK0.out.trans hK (fun x hx => .inr (by simp at hx; have := HG.out; omega))
      have hzr : g + 1 ≤ wr.heap.size := by have := hK.size; have := HZ0.out; omega
      by_cases hlt : j < n0
      · obtain ⟨r, hr⟩ : ∃ r, n0 - j = r + 1 := ⟨n0 - j - 1, by omega⟩
        have hr2 : n0 - (j + 1) = r := by omega
        obtain ⟨k, c, hk⟩ : ∃ x y, nmL b false a 2 = (x, y) := ⟨_, _, rfl⟩
        have hk1 : k < 65536 := by have := nmL_val (B := b) (bad := false) (a := a) (n := 2); rw [hk] at this; simpa using this
        rw [hr, poolL] at hpool
        simp only [hk] at hpool
        have HN := Lib.hid (num20_any wr g _ _ acc b false a 2 hF ⟨by omega, by omega⟩ (by omega) (by omega))
        rw [hk] at HN
        have hltI : (j : Int) < (n0 : Int) := by omega
        by_cases hbad : c = true ∨ b.length < a + 2 + k
        · rw [if_pos hbad] at hpool
          subst hpool
          have hTT := HTT.out
          simp only at hTT
          subst hTT
          have hways : c = true ∨ (c = false ∧ (b.length : Int) < (a : Int) + 2 + (k : Int)) := by
            cases c <;> simp at hbad ⊢ <;> omega
          have HKw := Lib.hid hKw
          clear hbad hO hG hK hRr hF hk hr hr2 HTT hKw
          rcases hways with rfl | ⟨rfl, e1⟩
          all_goals
            go_wp2_with (first
              | (go_at_call 44; refine HN.out.mono ?_; rintro e w2 ⟨rfl, h2, k2⟩; have d3 : w2.cell? ⟨g, 2, none⟩ = some (.bool _) := h2.1.cell_eq rfl; have HK2 := Lib.hid (HKw.out.trans k2 (fun x hx => .inr (by simp at hx; have := HG.out; omega))); clear h2 k2)
              | fail)
            go_ret2
            exact ⟨_, rfl, lies_none _ _, HK2.out⟩
        · rw [if_neg hbad] at hpool
          obtain ⟨rfl, hle⟩ : c = false ∧ a + 2 + k ≤ b.length := by
            rw [not_or] at hbad
            exact ⟨by simpa using hbad.1, by omega⟩
          have hnl : ¬ (b.length : Int) < (a : Int) + 2 + (k : Int) := by omega
          have hall : acc.length ≤ 1000000000 := by omega
          obtain ⟨s, hs⟩ : ∃ s : ByteArray, (⟨((b.drop (a + 2)).take k).toArray⟩ : ByteArray) = s := ⟨_, rfl⟩
          rw [hs] at hpool
          have HS := Lib.hid hs
          have HRR := Lib.hid hRr
          have HO := Lib.hid hO
          have HPOOL := Lib.hid hpool
          have HK := Lib.hid hK
          have HAL := Lib.hid hal
          have HR2 := Lib.hid hr2
          clear hO hpool hK hal hr hr2 hbad hk hF hRr hs hG hKw
          go_upto_region 10 with (first
            | (go_at_call 44; refine HN.out.mono ?_; rintro e w2 ⟨rfl, h2, k2⟩; have d3 : w2.cell? ⟨g, 2, none⟩ = some (.bool false) := h2.1.cell_eq rfl; have t0 : w2.cell? ⟨g, 0, none⟩ = some (.slice TA acc.length tc) := h2.1.cell_eq rfl; have HRW := Lib.hid (HRR.out.keep k2 (fun x hx => by simp at hx; omega)); have HGW := Lib.hid h2.1; have HG2 := Lib.hid (h2.1.keep (Keep.drew (Keep.refl [] w2)) (by simp)); have HO2 := Lib.hid ((HO.out.keep k2 (fun x hx hc => by simp at hc; have := (HO.out.lt x hx).1; omega)).keep (Keep.drew (Keep.refl [] w2)) (by simp)); have hz2 : g + 1 ≤ w2.drew.heap.size := Nat.le_trans hzr k2.size; have HK2 := Lib.hid ((HK.out.same k2).drew); clear h2 k2)
            | fail)
          have t1 : w2.drew.cell? ⟨g, 0, none⟩ = some (.slice TA acc.length tc) := HG2.out.cell_eq rfl
          clear d2 d3 hnl hltI
          obtain ⟨p, hp⟩ : ∃ p, a + 2 = p := ⟨_, rfl⟩
          obtain ⟨q, hq⟩ : ∃ q, p + k = q := ⟨_, rfl⟩
          have hs := HS.out
          have hRr := HRW.out
          rw [hp] at hs hle
          have hcell : ∀ j u, (((b.drop p).take k).map cellU)[j]? = some u → w2.cell? ⟨BB, bo + p + j, none⟩ = some u := fun j u hu => by
            obtain ⟨A', c', he, -, -, hc⟩ := hRr
            injection he with he1 _ _
            subst he1
            obtain ⟨x, y, hx, -, -, hcc⟩ := hc (by omega)
            injection hx with hx
            injection hx with hx1 hx2
            subst hx1; subst hx2
            rw [Nat.add_assoc]
            refine hcc (p + j) u ?_
            rw [List.getElem?_map] at hu ⊢
            have hj : j < k := by
              have := (List.getElem?_eq_some_iff.1 (Option.map_eq_some_iff.1 hu).choose_spec.1).1
              rw [List.length_take] at this
              omega
            rw [List.getElem?_take_of_lt hj, List.getElem?_drop] at hu
            exact hu
          have hlX : ((b.drop p).take k).length = k := by rw [List.length_take, List.length_drop]; omega
          have hBB : BB < g ∧ BB < w2.heap.size ∧ b.length ≤ bc ∧ bc ≤ maxLen := by
            obtain ⟨A', c', he, h8, h9, hc⟩ := hRr
            injection he with he1 _ he3
            subst he1; subst he3
            obtain ⟨x, y, hx, hS, hlt, -⟩ := hc (by omega)
            injection hx with hx
            injection hx with hx1 hx2
            subst hx1
            exact ⟨hS, hlt, h8, h9⟩
          have hcv : ∀ (v' : Value) W, RdC (fun x => x < g) W v' ((b.drop p).take k).length (((b.drop p).take k).map cellU) → (convert 25 9 v').run Tryz.prog W = .ok (.string s) W := fun v' W hW => by
            rw [← hs]
            exact conv_text (RdC.mono hW (fun _ _ => trivial))
          rw [hlX] at hcv
          clear hs hRr
          generalize (b.drop p).take k = X at *
          have hv' : (bc ≠ p → RdC (fun x => x < g) w2 (.slice (some ⟨BB, bo + p, none⟩) k (bc - p)) k (X.map cellU)) ∧ (bc = p → RdC (fun x => x < g) w2 (.slice (some ⟨BB, bo, none⟩) k 0) k (X.map cellU)) := by
            refine ⟨fun hne => ⟨_, _, rfl, by omega, by omega, fun _ => ⟨BB, bo + p, rfl, hBB.1, hBB.2.1, hcell⟩⟩, fun he => ?_⟩
            obtain rfl : k = 0 := by omega
            exact ⟨_, _, rfl, Nat.le_refl _, Nat.zero_le _, fun h => absurd h (by omega)⟩
          have i1 : (q : Int) ≤ (bc : Int) := by omega
          have i2 : (p : Int) ≤ max (q : Int) 0 := by omega
          have i3 : (p : Int) ≤ (q : Int) := by omega
          have i4 : q - p = k := by omega
          have i5 : bc = p → bc - p = 0 := by omega
          have HW1 : Hid (IntKind.i64.wrap ((a : Int) + 2) = (p : Int)) := by unfold Hid; rw [IntKind.wrap_i64]; omega
          have HW2 : Hid (IntKind.i64.wrap ((p : Int) + (k : Int)) = (q : Int)) := by unfold Hid; rw [IntKind.wrap_i64]; omega
          have HW3 : Hid (wrap64 ((a : Int) + 2) = (p : Int)) := by unfold Hid wrap64; omega
          have HW4 : Hid (wrap64 ((p : Int) + (k : Int)) = (q : Int)) := by unfold Hid wrap64; omega
          have HPQ : Hid (a + 2 = p ∧ p + k = q ∧ p + k ≤ b.length) := ⟨hp, hq, hle⟩
          by_cases hcp : bc = p
          · have hv2 := hv'.2 hcp
            clear hv'
            have hv' := hv2
            clear hv2
            have hcv := hcv (.slice (some ⟨BB, bo, none⟩) k 0)
            clear i5
            subst hcp
            have i5 : bc - bc = 0 := by omega
            have i6 : (bc : Int) ≤ (bc : Int) := Int.le_refl _
            clear hcell hlX hBB hp hq hle
            have HVd := Lib.hid (hv'.keep (Keep.drew (Keep.refl [] w2)) (by simp))
            have q0 := hcv _ hv'
            have HVW := Lib.hid hv'
            have q1 := hcv _ HVd.out
            have HCV := Lib.hid hcv
            clear hcv hv'
            have t2 : (w2.alloc (.cells #[.string s] 9)).cell? ⟨g, 0, none⟩ = some (.slice TA acc.length tc) := (HGW.out.keep ((Keep.refl [] w2).alloc _) (by simp)).cell_eq rfl
            have t3 : (w2.alloc (.cells #[.string s] 9)).drew.cell? ⟨g, 0, none⟩ = some (.slice TA acc.length tc) := (HGW.out.keep (((Keep.refl [] w2).alloc _).drew) (by simp)).cell_eq rfl
            have hw1 := HW1.out
            have hw2 := HW2.out
            have hw3 := HW3.out
            have hw4 := HW4.out
            (refine wp_region_noPanic ?_; refine wp_region_held_drew (S := (fun W => (convert 25 9 (.slice (some ⟨BB, bo, none⟩) k 0)).run Tryz.prog W = .ok (.string s) W)) (by kernel_rfl) ?_ (fun hHeld => ?_); (· (first | exact q0 | exact q1 | exact HCV.out _ (HVW.out.keep (((Keep.refl [] w2).alloc _).drew) (by simp)) | exact q5 | exact HCV.out _ (HV5.out.keep ((Keep.refl [g] w5).setCell (.inl (by simp)) _) (fun x hx => by simp at hx; omega)) | fail)); refine wpAnyH_take (i := 0) (v := ?_) rfl (by kernel_rfl) (by kernel_rfl) (by kernel_rfl) (fun _ _ _ h => h) (Or.inl ⟨by rfl, ?_⟩) (by assumption) ?_; rotate_left; (· (intro w hSw; go_simp; try with_reducible rfl)); refine wpAnyH_take (i := 1) (v := ?_) rfl (by kernel_rfl) (by kernel_rfl) (by kernel_rfl) (fun _ _ _ h => h) (Or.inl ⟨by rfl, ?_⟩) (by assumption) ?_; rotate_left; (· (intro w hSw; go_simp; try with_reducible rfl)); refine wpAnyH_take (i := 2) (v := ?_) rfl (by kernel_rfl) (by kernel_rfl) (by kernel_rfl) (fun _ _ _ h => h) (Or.inl ⟨by rfl, ?_⟩) (by assumption) ?_; rotate_left; (· (intro w hSw; go_simp; try with_reducible rfl)); refine wpAnyH_take (i := 3) (v := ?_) rfl (by kernel_rfl) (by kernel_rfl) (by kernel_rfl) (fun _ _ _ h => h) (Or.inl ⟨by rfl, ?_⟩) (by assumption) ?_; rotate_left; (· (intro w hSw; go_simp; try with_reducible rfl)); refine wpAnyH_take (i := 5) (v := ?_) rfl (by kernel_rfl) (by kernel_rfl) (by kernel_rfl) (fun _ _ _ h => h) (Or.inl ⟨by rfl, ?_⟩) (by assumption) ?_; rotate_left; (· (intro w hSw; go_simp; try with_reducible rfl)); refine wpAnyH_take (i := 6) (v := ?_) rfl (by kernel_rfl) (by kernel_rfl) (by kernel_rfl) (fun _ _ _ h => h) (Or.inl ⟨by rfl, ?_⟩) (by assumption) ?_; rotate_left; (· (intro w hSw; go_simp; try with_reducible rfl)); refine wpAnyH_take (i := 7) (v := ?_) rfl (by kernel_rfl) (by kernel_rfl) (by kernel_rfl) (fun _ _ _ h => h) (Or.inl ⟨by rfl, ?_⟩) (by assumption) ?_; rotate_left; (· (intro w hSw; go_simp; try with_reducible rfl)); refine wpAnyH_take (i := 8) (v := ?_) rfl (by kernel_rfl) (by kernel_rfl) (by kernel_rfl) (fun _ _ _ h => h) (Or.inl ⟨by rfl, ?_⟩) (by assumption) ?_; rotate_left; (· (intro w hSw; go_simp; try with_reducible rfl)); refine wpAnyH_take (i := 9) (v := ?_) rfl (by kernel_rfl) (by kernel_rfl) (by kernel_rfl) (fun _ _ _ h => h) (Or.inl ⟨by rfl, ?_⟩) (by assumption) ?_; rotate_left; (· (intro w hSw; go_simp; try with_reducible rfl)); refine wpAnyH_take (i := 10) (v := ?_) rfl (by kernel_rfl) (by kernel_rfl) (by kernel_rfl) (fun _ _ _ h => h) (Or.inl ⟨by rfl, ?_⟩) (by assumption) ?_; rotate_left; (· (intro w hSw; go_simp; try with_reducible rfl)); refine wpAnyH_take (i := 11) (v := ?_) rfl (by kernel_rfl) (by kernel_rfl) (by kernel_rfl) (fun _ _ _ h => h) (Or.inl ⟨by rfl, ?_⟩) (by assumption) ?_; rotate_left; (· (intro w hSw; go_simp; try with_reducible rfl)); refine wpAnyH_take (i := 12) (v := ?_) rfl (by kernel_rfl) (by kernel_rfl) (by kernel_rfl) (fun _ _ _ h => h) (Or.inl ⟨by rfl, ?_⟩) (by assumption) ?_; rotate_left; (· (intro w hSw; go_simp; try with_reducible rfl)); refine wpAnyH_take (i := 13) (v := ?_) rfl (by kernel_rfl) (by kernel_rfl) (by kernel_rfl) (fun _ _ _ h => h) (Or.inl ⟨by rfl, ?_⟩) (by assumption) ?_; rotate_left; (· (intro w hSw; go_simp; try with_reducible rfl)); refine wpAnyH_ready (rs := [4, 14]) (by kernel_rfl) (by simp) ?_; refine AllReadyH.cons rfl (fun K hK => ?_) ?_; go_simp; refine hK.out _ _ ?_ (fun hHeld => ?_); (· (first | exact q0 | exact q1 | exact HCV.out _ (HVW.out.keep (((Keep.refl [] w2).alloc _).drew) (by simp)) | exact q5 | exact HCV.out _ (HV5.out.keep ((Keep.refl [g] w5).setCell (.inl (by simp)) _) (fun x hx => by simp at hx; omega)) | fail)); clear hK K; refine wpAnyH_ready (rs := [14]) (by kernel_rfl) (by simp) ?_; refine AllReadyH.cons rfl (fun K hK => ?_) ?_; go_simp; refine hK.out _ _ ?_ (fun hHeld => ?_); (· (first | exact q0 | exact q1 | exact HCV.out _ (HVW.out.keep (((Keep.refl [] w2).alloc _).drew) (by simp)) | exact q5 | exact HCV.out _ (HV5.out.keep ((Keep.refl [g] w5).setCell (.inl (by simp)) _) (fun x hx => by simp at hx; omega)) | fail)); clear hK K; refine wpAnyH_ready (rs := [15]) (by kernel_rfl) (by simp) ?_; refine AllReadyH.cons rfl (fun K hK => ?_) ?_; (first | (refine step_append_t (by rfl) _ _ (by rfl) (by rfl) HO2.out s w2.drew.heap.size rfl (by rfl) hall hz2 ?_; intro A5 cap5 w5 ho5 hk5; have hG5 := HG2.out.keep hk5 (fun hc => by have := (HO2.out.lt g hc).1; omega); have t5 : w5.cell? ⟨g, 0, none⟩ = some (.slice TA acc.length tc) := hG5.cell_eq rfl; have z5 : w5.frozen? ⟨g, 0, none⟩ = false := hG5.frozen 0; have HV5 := Lib.hid (HVd.out.keep hk5 (fun x hx hc => by have := (HO2.out.lt x hx).1; omega)); have q5 := HCV.out w5 HV5.out; have HG5 := Lib.hid hG5; have HO5 := Lib.hid ho5; have HK5 := Lib.hid hk5; clear hG5 ho5 hk5) | fail); refine hK.out _ _ ?_ (fun hHeld => ?_); (· (first | exact q0 | exact q1 | exact HCV.out _ (HVW.out.keep (((Keep.refl [] w2).alloc _).drew) (by simp)) | exact q5 | exact HCV.out _ (HV5.out.keep ((Keep.refl [g] w5).setCell (.inl (by simp)) _) (fun x hx => by simp at hx; omega)) | fail)); clear hK K; refine wpAnyH_take (i := 16) (v := ?_) rfl (by kernel_rfl) (by kernel_rfl) (by kernel_rfl) (fun _ _ _ h => h) (Or.inl ⟨by rfl, ?_⟩) (by assumption) ?_; rotate_left; (· (intro w hSw; go_simp; try with_reducible rfl)); refine wpAnyH_take (i := 17) (v := ?_) rfl (by kernel_rfl) (by kernel_rfl) (by kernel_rfl) (fun _ _ _ h => h) (Or.inl ⟨by rfl, ?_⟩) (by assumption) ?_; rotate_left; (· (intro w hSw; go_simp; try with_reducible rfl)); refine wpAnyH_ready (rs := [18]) (by kernel_rfl) (by simp) ?_; refine AllReadyH.cons rfl (fun K hK => ?_) ?_; go_simp; refine hK.out _ _ ?_ (fun hHeld => ?_); (· (first | exact q0 | exact q1 | exact HCV.out _ (HVW.out.keep (((Keep.refl [] w2).alloc _).drew) (by simp)) | exact q5 | exact HCV.out _ (HV5.out.keep ((Keep.refl [g] w5).setCell (.inl (by simp)) _) (fun x hx => by simp at hx; omega)) | fail)); clear hK K; refine wpAnyH_done (by kernel_rfl) ?_ _; refine NoPanic.normal ?_; rotate_left; exact AllReadyH.nil; exact AllReadyH.nil; exact AllReadyH.nil; refine AllReadyH.cons rfl (fun K hK => ?_) ?_; go_simp; refine hK.out _ _ ?_ (fun hHeld => ?_); (· (first | exact q0 | exact q1 | exact HCV.out _ (HVW.out.keep (((Keep.refl [] w2).alloc _).drew) (by simp)) | exact q5 | exact HCV.out _ (HV5.out.keep ((Keep.refl [g] w5).setCell (.inl (by simp)) _) (fun x hx => by simp at hx; omega)) | fail)); clear hK K; refine wpAnyH_ready (rs := [4]) (by kernel_rfl) (by simp) ?_; refine AllReadyH.cons rfl (fun K hK => ?_) ?_; go_simp; refine hK.out _ _ ?_ (fun hHeld => ?_); (· (first | exact q0 | exact q1 | exact HCV.out _ (HVW.out.keep (((Keep.refl [] w2).alloc _).drew) (by simp)) | exact q5 | exact HCV.out _ (HV5.out.keep ((Keep.refl [g] w5).setCell (.inl (by simp)) _) (fun x hx => by simp at hx; omega)) | fail)); clear hK K; refine wpAnyH_ready (rs := [15]) (by kernel_rfl) (by simp) ?_; refine AllReadyH.cons rfl (fun K hK => ?_) ?_; (first | (refine step_append_t (by rfl) _ _ (by rfl) (by rfl) HO2.out s w2.drew.heap.size rfl (by rfl) hall hz2 ?_; intro A5 cap5 w5 ho5 hk5; have hG5 := HG2.out.keep hk5 (fun hc => by have := (HO2.out.lt g hc).1; omega); have t5 : w5.cell? ⟨g, 0, none⟩ = some (.slice TA acc.length tc) := hG5.cell_eq rfl; have z5 : w5.frozen? ⟨g, 0, none⟩ = false := hG5.frozen 0; have HV5 := Lib.hid (HVd.out.keep hk5 (fun x hx hc => by have := (HO2.out.lt x hx).1; omega)); have q5 := HCV.out w5 HV5.out; have HG5 := Lib.hid hG5; have HO5 := Lib.hid ho5; have HK5 := Lib.hid hk5; clear hG5 ho5 hk5) | fail); refine hK.out _ _ ?_ (fun hHeld => ?_); (· (first | exact q0 | exact q1 | exact HCV.out _ (HVW.out.keep (((Keep.refl [] w2).alloc _).drew) (by simp)) | exact q5 | exact HCV.out _ (HV5.out.keep ((Keep.refl [g] w5).setCell (.inl (by simp)) _) (fun x hx => by simp at hx; omega)) | fail)); clear hK K; refine wpAnyH_take (i := 16) (v := ?_) rfl (by kernel_rfl) (by kernel_rfl) (by kernel_rfl) (fun _ _ _ h => h) (Or.inl ⟨by rfl, ?_⟩) (by assumption) ?_; rotate_left; (· (intro w hSw; go_simp; try with_reducible rfl)); refine wpAnyH_take (i := 17) (v := ?_) rfl (by kernel_rfl) (by kernel_rfl) (by kernel_rfl) (fun _ _ _ h => h) (Or.inl ⟨by rfl, ?_⟩) (by assumption) ?_; rotate_left; (· (intro w hSw; go_simp; try with_reducible rfl)); refine wpAnyH_ready (rs := [18]) (by kernel_rfl) (by simp) ?_; refine AllReadyH.cons rfl (fun K hK => ?_) ?_; go_simp; refine hK.out _ _ ?_ (fun hHeld => ?_); (· (first | exact q0 | exact q1 | exact HCV.out _ (HVW.out.keep (((Keep.refl [] w2).alloc _).drew) (by simp)) | exact q5 | exact HCV.out _ (HV5.out.keep ((Keep.refl [g] w5).setCell (.inl (by simp)) _) (fun x hx => by simp at hx; omega)) | fail)); clear hK K; refine wpAnyH_done (by kernel_rfl) ?_ _; refine NoPanic.normal ?_; rotate_left; exact AllReadyH.nil; exact AllReadyH.nil; exact AllReadyH.nil; exact AllReadyH.nil)
            all_goals
              clear hw1 hw2 hw3 hw4 i1 i2 i3 i4 q0 q1 t0 t1 t2 t3 t5 q5
              obtain ⟨hq1, hq2, hq3⟩ := HPQ.out
              have hsc : Keep [g] w5 (w5.setCell ⟨g, 0, none⟩ (.slice A5 (acc.length + 1) cap5)) := (Keep.refl _ _).setCell (.inl (by simp)) _
              have hog := fun x hx => (HO5.out.lt x hx).1
              have hog2 := fun x hx => (HO2.out.lt x hx).1
              go_wp2
              go_roundw
              case rel => exact ⟨j + 1, a + 2 + k, acc ++ [s], .slice A5 (acc.length + 1) cap5, by omega, by go_num, by go_num, HO5.out.keep hsc (fun x hx hc => by have := hog x hx; simp at hc; omega), by simpa using Blk.set_ HG5.out 0 (.slice A5 (acc.length + 1) cap5), (HK2.out.trans HK5.out (fun x hx => .inr (by have := hog2 x hx; have := HZ0.out; omega))).same hsc, by simp [HAL.out], by omega, by rw [HR2.out]; exact HPOOL.out⟩
              case measure => simp [intOf]; omega
          · have hv2 := hv'.1 hcp
            clear hv'
            have hv' := hv2
            clear hv2
            clear i5
            have hcv := hcv (.slice (some ⟨BB, bo + p, none⟩) k (bc - p))
            clear hcell hlX hBB hp hq hle
            have HVd := Lib.hid (hv'.keep (Keep.drew (Keep.refl [] w2)) (by simp))
            have q0 := hcv _ hv'
            have HVW := Lib.hid hv'
            have q1 := hcv _ HVd.out
            have HCV := Lib.hid hcv
            clear hcv hv'
            have t2 : (w2.alloc (.cells #[.string s] 9)).cell? ⟨g, 0, none⟩ = some (.slice TA acc.length tc) := (HGW.out.keep ((Keep.refl [] w2).alloc _) (by simp)).cell_eq rfl
            have t3 : (w2.alloc (.cells #[.string s] 9)).drew.cell? ⟨g, 0, none⟩ = some (.slice TA acc.length tc) := (HGW.out.keep (((Keep.refl [] w2).alloc _).drew) (by simp)).cell_eq rfl
            have hw1 := HW1.out
            have hw2 := HW2.out
            have hw3 := HW3.out
            have hw4 := HW4.out
            (refine wp_region_noPanic ?_; refine wp_region_held_drew (S := (fun W => (convert 25 9 (.slice (some ⟨BB, bo + p, none⟩) k (bc - p))).run Tryz.prog W = .ok (.string s) W)) (by kernel_rfl) ?_ (fun hHeld => ?_); (· (first | exact q0 | exact q1 | exact HCV.out _ (HVW.out.keep (((Keep.refl [] w2).alloc _).drew) (by simp)) | exact q5 | exact HCV.out _ (HV5.out.keep ((Keep.refl [g] w5).setCell (.inl (by simp)) _) (fun x hx => by simp at hx; omega)) | fail)); refine wpAnyH_take (i := 0) (v := ?_) rfl (by kernel_rfl) (by kernel_rfl) (by kernel_rfl) (fun _ _ _ h => h) (Or.inl ⟨by rfl, ?_⟩) (by assumption) ?_; rotate_left; (· (intro w hSw; go_simp; try with_reducible rfl)); refine wpAnyH_take (i := 1) (v := ?_) rfl (by kernel_rfl) (by kernel_rfl) (by kernel_rfl) (fun _ _ _ h => h) (Or.inl ⟨by rfl, ?_⟩) (by assumption) ?_; rotate_left; (· (intro w hSw; go_simp; try with_reducible rfl)); refine wpAnyH_take (i := 2) (v := ?_) rfl (by kernel_rfl) (by kernel_rfl) (by kernel_rfl) (fun _ _ _ h => h) (Or.inl ⟨by rfl, ?_⟩) (by assumption) ?_; rotate_left; (· (intro w hSw; go_simp; try with_reducible rfl)); refine wpAnyH_take (i := 3) (v := ?_) rfl (by kernel_rfl) (by kernel_rfl) (by kernel_rfl) (fun _ _ _ h => h) (Or.inl ⟨by rfl, ?_⟩) (by assumption) ?_; rotate_left; (· (intro w hSw; go_simp; try with_reducible rfl)); refine wpAnyH_take (i := 5) (v := ?_) rfl (by kernel_rfl) (by kernel_rfl) (by kernel_rfl) (fun _ _ _ h => h) (Or.inl ⟨by rfl, ?_⟩) (by assumption) ?_; rotate_left; (· (intro w hSw; go_simp; try with_reducible rfl)); refine wpAnyH_take (i := 6) (v := ?_) rfl (by kernel_rfl) (by kernel_rfl) (by kernel_rfl) (fun _ _ _ h => h) (Or.inl ⟨by rfl, ?_⟩) (by assumption) ?_; rotate_left; (· (intro w hSw; go_simp; try with_reducible rfl)); refine wpAnyH_take (i := 7) (v := ?_) rfl (by kernel_rfl) (by kernel_rfl) (by kernel_rfl) (fun _ _ _ h => h) (Or.inl ⟨by rfl, ?_⟩) (by assumption) ?_; rotate_left; (· (intro w hSw; go_simp; try with_reducible rfl)); refine wpAnyH_take (i := 8) (v := ?_) rfl (by kernel_rfl) (by kernel_rfl) (by kernel_rfl) (fun _ _ _ h => h) (Or.inl ⟨by rfl, ?_⟩) (by assumption) ?_; rotate_left; (· (intro w hSw; go_simp; try with_reducible rfl)); refine wpAnyH_take (i := 9) (v := ?_) rfl (by kernel_rfl) (by kernel_rfl) (by kernel_rfl) (fun _ _ _ h => h) (Or.inl ⟨by rfl, ?_⟩) (by assumption) ?_; rotate_left; (· (intro w hSw; go_simp; try with_reducible rfl)); refine wpAnyH_take (i := 10) (v := ?_) rfl (by kernel_rfl) (by kernel_rfl) (by kernel_rfl) (fun _ _ _ h => h) (Or.inl ⟨by rfl, ?_⟩) (by assumption) ?_; rotate_left; (· (intro w hSw; go_simp; try with_reducible rfl)); refine wpAnyH_take (i := 11) (v := ?_) rfl (by kernel_rfl) (by kernel_rfl) (by kernel_rfl) (fun _ _ _ h => h) (Or.inl ⟨by rfl, ?_⟩) (by assumption) ?_; rotate_left; (· (intro w hSw; go_simp; try with_reducible rfl)); refine wpAnyH_take (i := 12) (v := ?_) rfl (by kernel_rfl) (by kernel_rfl) (by kernel_rfl) (fun _ _ _ h => h) (Or.inl ⟨by rfl, ?_⟩) (by assumption) ?_; rotate_left; (· (intro w hSw; go_simp; try with_reducible rfl)); refine wpAnyH_take (i := 13) (v := ?_) rfl (by kernel_rfl) (by kernel_rfl) (by kernel_rfl) (fun _ _ _ h => h) (Or.inl ⟨by rfl, ?_⟩) (by assumption) ?_; rotate_left; (· (intro w hSw; go_simp; try with_reducible rfl)); refine wpAnyH_ready (rs := [4, 14]) (by kernel_rfl) (by simp) ?_; refine AllReadyH.cons rfl (fun K hK => ?_) ?_; go_simp; refine hK.out _ _ ?_ (fun hHeld => ?_); (· (first | exact q0 | exact q1 | exact HCV.out _ (HVW.out.keep (((Keep.refl [] w2).alloc _).drew) (by simp)) | exact q5 | exact HCV.out _ (HV5.out.keep ((Keep.refl [g] w5).setCell (.inl (by simp)) _) (fun x hx => by simp at hx; omega)) | fail)); clear hK K; refine wpAnyH_ready (rs := [14]) (by kernel_rfl) (by simp) ?_; refine AllReadyH.cons rfl (fun K hK => ?_) ?_; go_simp; refine hK.out _ _ ?_ (fun hHeld => ?_); (· (first | exact q0 | exact q1 | exact HCV.out _ (HVW.out.keep (((Keep.refl [] w2).alloc _).drew) (by simp)) | exact q5 | exact HCV.out _ (HV5.out.keep ((Keep.refl [g] w5).setCell (.inl (by simp)) _) (fun x hx => by simp at hx; omega)) | fail)); clear hK K; refine wpAnyH_ready (rs := [15]) (by kernel_rfl) (by simp) ?_; refine AllReadyH.cons rfl (fun K hK => ?_) ?_; (first | (refine step_append_t (by rfl) _ _ (by rfl) (by rfl) HO2.out s w2.drew.heap.size rfl (by rfl) hall hz2 ?_; intro A5 cap5 w5 ho5 hk5; have hG5 := HG2.out.keep hk5 (fun hc => by have := (HO2.out.lt g hc).1; omega); have t5 : w5.cell? ⟨g, 0, none⟩ = some (.slice TA acc.length tc) := hG5.cell_eq rfl; have z5 : w5.frozen? ⟨g, 0, none⟩ = false := hG5.frozen 0; have HV5 := Lib.hid (HVd.out.keep hk5 (fun x hx hc => by have := (HO2.out.lt x hx).1; omega)); have q5 := HCV.out w5 HV5.out; have HG5 := Lib.hid hG5; have HO5 := Lib.hid ho5; have HK5 := Lib.hid hk5; clear hG5 ho5 hk5) | fail); refine hK.out _ _ ?_ (fun hHeld => ?_); (· (first | exact q0 | exact q1 | exact HCV.out _ (HVW.out.keep (((Keep.refl [] w2).alloc _).drew) (by simp)) | exact q5 | exact HCV.out _ (HV5.out.keep ((Keep.refl [g] w5).setCell (.inl (by simp)) _) (fun x hx => by simp at hx; omega)) | fail)); clear hK K; refine wpAnyH_take (i := 16) (v := ?_) rfl (by kernel_rfl) (by kernel_rfl) (by kernel_rfl) (fun _ _ _ h => h) (Or.inl ⟨by rfl, ?_⟩) (by assumption) ?_; rotate_left; (· (intro w hSw; go_simp; try with_reducible rfl)); refine wpAnyH_take (i := 17) (v := ?_) rfl (by kernel_rfl) (by kernel_rfl) (by kernel_rfl) (fun _ _ _ h => h) (Or.inl ⟨by rfl, ?_⟩) (by assumption) ?_; rotate_left; (· (intro w hSw; go_simp; try with_reducible rfl)); refine wpAnyH_ready (rs := [18]) (by kernel_rfl) (by simp) ?_; refine AllReadyH.cons rfl (fun K hK => ?_) ?_; go_simp; refine hK.out _ _ ?_ (fun hHeld => ?_); (· (first | exact q0 | exact q1 | exact HCV.out _ (HVW.out.keep (((Keep.refl [] w2).alloc _).drew) (by simp)) | exact q5 | exact HCV.out _ (HV5.out.keep ((Keep.refl [g] w5).setCell (.inl (by simp)) _) (fun x hx => by simp at hx; omega)) | fail)); clear hK K; refine wpAnyH_done (by kernel_rfl) ?_ _; refine NoPanic.normal ?_; rotate_left; exact AllReadyH.nil; exact AllReadyH.nil; exact AllReadyH.nil; refine AllReadyH.cons rfl (fun K hK => ?_) ?_; go_simp; refine hK.out _ _ ?_ (fun hHeld => ?_); (· (first | exact q0 | exact q1 | exact HCV.out _ (HVW.out.keep (((Keep.refl [] w2).alloc _).drew) (by simp)) | exact q5 | exact HCV.out _ (HV5.out.keep ((Keep.refl [g] w5).setCell (.inl (by simp)) _) (fun x hx => by simp at hx; omega)) | fail)); clear hK K; refine wpAnyH_ready (rs := [4]) (by kernel_rfl) (by simp) ?_; refine AllReadyH.cons rfl (fun K hK => ?_) ?_; go_simp; refine hK.out _ _ ?_ (fun hHeld => ?_); (· (first | exact q0 | exact q1 | exact HCV.out _ (HVW.out.keep (((Keep.refl [] w2).alloc _).drew) (by simp)) | exact q5 | exact HCV.out _ (HV5.out.keep ((Keep.refl [g] w5).setCell (.inl (by simp)) _) (fun x hx => by simp at hx; omega)) | fail)); clear hK K; refine wpAnyH_ready (rs := [15]) (by kernel_rfl) (by simp) ?_; refine AllReadyH.cons rfl (fun K hK => ?_) ?_; (first | (refine step_append_t (by rfl) _ _ (by rfl) (by rfl) HO2.out s w2.drew.heap.size rfl (by rfl) hall hz2 ?_; intro A5 cap5 w5 ho5 hk5; have hG5 := HG2.out.keep hk5 (fun hc => by have := (HO2.out.lt g hc).1; omega); have t5 : w5.cell? ⟨g, 0, none⟩ = some (.slice TA acc.length tc) := hG5.cell_eq rfl; have z5 : w5.frozen? ⟨g, 0, none⟩ = false := hG5.frozen 0; have HV5 := Lib.hid (HVd.out.keep hk5 (fun x hx hc => by have := (HO2.out.lt x hx).1; omega)); have q5 := HCV.out w5 HV5.out; have HG5 := Lib.hid hG5; have HO5 := Lib.hid ho5; have HK5 := Lib.hid hk5; clear hG5 ho5 hk5) | fail); refine hK.out _ _ ?_ (fun hHeld => ?_); (· (first | exact q0 | exact q1 | exact HCV.out _ (HVW.out.keep (((Keep.refl [] w2).alloc _).drew) (by simp)) | exact q5 | exact HCV.out _ (HV5.out.keep ((Keep.refl [g] w5).setCell (.inl (by simp)) _) (fun x hx => by simp at hx; omega)) | fail)); clear hK K; refine wpAnyH_take (i := 16) (v := ?_) rfl (by kernel_rfl) (by kernel_rfl) (by kernel_rfl) (fun _ _ _ h => h) (Or.inl ⟨by rfl, ?_⟩) (by assumption) ?_; rotate_left; (· (intro w hSw; go_simp; try with_reducible rfl)); refine wpAnyH_take (i := 17) (v := ?_) rfl (by kernel_rfl) (by kernel_rfl) (by kernel_rfl) (fun _ _ _ h => h) (Or.inl ⟨by rfl, ?_⟩) (by assumption) ?_; rotate_left; (· (intro w hSw; go_simp; try with_reducible rfl)); refine wpAnyH_ready (rs := [18]) (by kernel_rfl) (by simp) ?_; refine AllReadyH.cons rfl (fun K hK => ?_) ?_; go_simp; refine hK.out _ _ ?_ (fun hHeld => ?_); (· (first | exact q0 | exact q1 | exact HCV.out _ (HVW.out.keep (((Keep.refl [] w2).alloc _).drew) (by simp)) | exact q5 | exact HCV.out _ (HV5.out.keep ((Keep.refl [g] w5).setCell (.inl (by simp)) _) (fun x hx => by simp at hx; omega)) | fail)); clear hK K; refine wpAnyH_done (by kernel_rfl) ?_ _; refine NoPanic.normal ?_; rotate_left; exact AllReadyH.nil; exact AllReadyH.nil; exact AllReadyH.nil; exact AllReadyH.nil)
            all_goals
              clear hw1 hw2 hw3 hw4 i1 i2 i3 i4 q0 q1 t0 t1 t2 t3 t5 q5
              obtain ⟨hq1, hq2, hq3⟩ := HPQ.out
              have hsc : Keep [g] w5 (w5.setCell ⟨g, 0, none⟩ (.slice A5 (acc.length + 1) cap5)) := (Keep.refl _ _).setCell (.inl (by simp)) _
              have hog := fun x hx => (HO5.out.lt x hx).1
              have hog2 := fun x hx => (HO2.out.lt x hx).1
              go_wp2
              go_roundw
              case rel => exact ⟨j + 1, a + 2 + k, acc ++ [s], .slice A5 (acc.length + 1) cap5, by omega, by go_num, by go_num, HO5.out.keep hsc (fun x hx hc => by have := hog x hx; simp at hc; omega), by simpa using Blk.set_ HG5.out 0 (.slice A5 (acc.length + 1) cap5), (HK2.out.trans HK5.out (fun x hx => .inr (by have := hog2 x hx; have := HZ0.out; omega))).same hsc, by simp [HAL.out], by omega, by rw [HR2.out]; exact HPOOL.out⟩
              case measure => simp [intOf]; omega
      · obtain rfl : j = n0 := by omega
        rw [Nat.sub_self, poolL] at hpool
        subst hpool
        have hTT := HTT.out
        simp only at hTT
        obtain ⟨z, c, hz⟩ : ∃ x y, nmL b false a 4 = (x, y) := ⟨_, _, rfl⟩
        simp only [hz] at hTT
        have hz1 : z < 4294967296 := by have := nmL_val (B := b) (bad := false) (a := a) (n := 4); rw [hz] at this; simpa using this
        have HN := Lib.hid (num20_any wr g _ _ acc b false a 4 hF ⟨by omega, by omega⟩ (by omega) (by omega))
        rw [hz] at HN
        by_cases hbad : c = true ∨ a + 4 + z ≠ b.length
        · rw [if_pos hbad] at hTT
          subst hTT
          have hways : c = true ∨ (c = false ∧ ((a : Int) + 4 + (z : Int) != (b.length : Int)) = true) := by
            cases c <;> simp at hbad ⊢ <;> omega
          have HKw := Lib.hid hKw
          clear hbad hO hG hK hRr hF hz HTT hKw
          rcases hways with rfl | ⟨rfl, e1⟩
          all_goals
            go_wp2_with (first
              | (go_at_call 44; refine HN.out.mono ?_; rintro e w2 ⟨rfl, h2, k2⟩; have d3 : w2.cell? ⟨g, 2, none⟩ = some (.bool _) := h2.1.cell_eq rfl; have HK2 := Lib.hid (HKw.out.trans k2 (fun x hx => .inr (by simp at hx; have := HG.out; omega))); clear h2 k2)
              | fail)
            go_ret2
            exact ⟨_, rfl, lies_none _ _, HK2.out⟩
        · rw [if_neg hbad] at hTT
          obtain ⟨rfl, hle⟩ : c = false ∧ a + 4 + z = b.length := by
            rw [not_or] at hbad
            exact ⟨by simpa using hbad.1, by omega⟩
          have e1 : ((a : Int) + 4 + (z : Int) != (b.length : Int)) = false := by simp; omega
          have HTT2 := Lib.hid hTT
          have HKw := Lib.hid hKw
          have HRR := Lib.hid hRr
          have HO := Lib.hid hO
          clear hbad hO hG hK hRr hF hz HTT hTT hKw
          go_upto_region 15 with (first
            | (go_at_call 44; refine HN.out.mono ?_; rintro e w2 ⟨rfl, h2, k2⟩; have d3 : w2.cell? ⟨g, 2, none⟩ = some (.bool false) := h2.1.cell_eq rfl; have d1 : w2.cell? ⟨g, 1, none⟩ = some (.slice (some ⟨BB, bo, none⟩) b.length bc) := h2.1.cell_eq rfl; have f1 : w2.frozen? ⟨g, 1, none⟩ = false := h2.1.frozen 1; have HG2 := Lib.hid h2.1; have HRW := Lib.hid (HRR.out.keep k2 (fun x hx => by simp at hx; omega)); have HO2 := Lib.hid (HO.out.keep k2 (fun x hx hc => by simp at hc; have := (HO.out.lt x hx).1; omega)); have HK2 := Lib.hid (HKw.out.trans k2 (fun x hx => .inr (by simp at hx; have := HG.out; omega))); clear h2 k2)
            | fail)
          clear d2 d3 e1
          obtain ⟨p, hp⟩ : ∃ p, a + 4 = p := ⟨_, rfl⟩
          have HTT3 := HTT2.out
          rw [hp] at HTT3 hle
          have hpI : (a : Int) + 4 = (p : Int) := by omega
          have hbcl : b.length ≤ bc := by
            obtain ⟨A', c', he, h8, -⟩ := HRW.out
            injection he with _ _ he3
            subst he3
            exact h8
          have i1 : (p : Int) ≤ (b.length : Int) := by omega
          have i3 : b.length - p = z := by omega
          have hlD : (b.drop p).length = z := by rw [List.length_drop]; omega
          have hBB : BB < g ∧ BB < w2.heap.size ∧ bc ≤ maxLen := by
            obtain ⟨A', c', he, h8, h9, hc⟩ := HRW.out
            injection he with he1 _ he3
            subst he1; subst he3
            obtain ⟨x, y, hx, hS, hlt, -⟩ := hc (by omega)
            injection hx with hx
            injection hx with hx1 hx2
            subst hx1
            exact ⟨hS, hlt, h9⟩
          have hVs : (bc = p → RdC (fun x => x < g) w2 (.slice (some ⟨BB, bo, none⟩) z 0) (b.drop p).length ((b.drop p).map cellU)) ∧ (bc ≠ p → RdC (fun x => x < g) w2 (.slice (some ⟨BB, bo + p, none⟩) z (bc - p)) (b.drop p).length ((b.drop p).map cellU)) := by
            rw [hlD]
            refine ⟨fun he => ?_, fun hne => ⟨_, _, rfl, by omega, by omega, fun _ => ⟨BB, bo + p, rfl, hBB.1, hBB.2.1, fun j u hu => ?_⟩⟩⟩
            · have hz0 : z = 0 := by omega
              exact ⟨_, _, rfl, by omega, Nat.zero_le _, fun h => absurd h (by omega)⟩
            · obtain ⟨A', c', he, -, -, hc⟩ := HRW.out
              injection he with he1 _ _
              subst he1
              obtain ⟨x, y, hx, -, -, hcc⟩ := hc (by omega)
              injection hx with hx
              injection hx with hx1 hx2
              subst hx1; subst hx2
              rw [Nat.add_assoc]
              refine hcc (p + j) u ?_
              rw [List.getElem?_map] at hu ⊢
              rw [List.getElem?_drop] at hu
              exact hu
          clear hBB
          by_cases hcp : bc = p
          · as_aux_lemma =>
            have hVr := hVs.1 hcp
            clear hVs
            go_upto_region 16 with fail
            have hsc : Keep [g] w2 (w2.setCell ⟨g, 1, none⟩ (.slice (some ⟨BB, bo, none⟩) z 0)) := (Keep.refl _ _).setCell (.inl (by simp)) _
            have hlf : LfW (w2.setCell ⟨g, 1, none⟩ (.slice (some ⟨BB, bo, none⟩) z 0)) g (.slice TA acc.length tc) (.slice (some ⟨BB, bo, none⟩) z 0) acc (b.drop p) false := ⟨by simpa using Blk.set_ HG2.out 1 (.slice (some ⟨BB, bo, none⟩) z 0), RdC.mono (RdC.of_own (by simp) (HO2.out.keep hsc (fun x hx hc => by have := (HO2.out.lt x hx).1; simp at hc; omega)) (fun x hx => (HO2.out.lt x hx).1)) (fun x hx => by omega), (RdC.keep hVr hsc (fun x hx => by simp at hx; omega)).mono (fun x hx => by omega)⟩
            have HKS := Lib.hid (HK2.out.trans hsc (fun x hx => .inr (by simp at hx; have := HG.out; omega)))
            have hgW := hlf.1.lt
            have hDl : (b.drop p).length ≤ 4000 := by rw [List.length_drop]; omega
            clear hpI i1 i3 hcp hbcl hVr hsc d1 f1 hp hle hlD
            generalize w2.setCell ⟨g, 1, none⟩ (.slice (some ⟨BB, bo, none⟩) z 0) = W3 at *
            generalize b.drop p = D at *
            have h10 := H10.out
            have hP := (lifter_all N9 (by omega)).2 W3 g _ _ acc D false 0 hlf (by omega) (by omega)
            rw [show ((N9 : Nat) : Int) = 9 by omega] at hP
            clear h10
            obtain ⟨l, e0, bb, hx⟩ : ∃ x y z, lfF D acc N9 false 0 = (x, y, z) := ⟨_, _, _, rfl⟩
            have he0 := lf_le hx (by omega)
            simp only [hx] at hP HTT3
            have HP := Lib.hid hP
            clear hP
            clear hx hlf HG2 HO2 HRW HK2 HTT2 HRR HO
            have hze := HKS.out.size
            cases bb with
            | true =>
              obtain rfl : TT = (l, false) := by rw [← HTT3]; simp
              clear HTT3
              go_wp2_with (first
                | (go_at_call 63; refine HP.out.mono ?_; rintro e w4 ⟨u, rfl, hu, h4, k4⟩; obtain ⟨UA, uc, rfl⟩ := hu.form; have d4 : w4.cell? ⟨g, 2, none⟩ = some (.bool true) := h4.1.cell_eq rfl; have hu2 := hu.lies; rw [H10.out] at hu2; have HU := Lib.hid hu2; clear hu2; have HK4 := Lib.hid (HKS.out.trans k4 (fun x hx => .inr (by simp at hx; have := HG.out; omega))); clear hu h4 k4)
                | fail)
              go_ret2
              exact ⟨_, rfl, HU.out.mono (fun x hx => ⟨by omega, hx.2⟩), HK4.out⟩
            | false =>
              by_cases hez : e0 + 1 = z
              · obtain ⟨y, c, hy⟩ : ∃ x y, nmL D false e0 1 = (x, y) := ⟨_, _, rfl⟩
                have HNY : Hid (∀ W, LfW W g (.slice TA acc.length tc) (.slice (some ⟨BB, bo, none⟩) z 0) acc D false → Calls Tryz.prog 44 #[.pointer (some ⟨g, 0, none⟩), .int .i64 (e0 : Int), .int .i64 1] W fun e w' => e = .returned (.int .i64 (y : Int)) ∧ LfW w' g (.slice TA acc.length tc) (.slice (some ⟨BB, bo, none⟩) z 0) acc D c ∧ Keep [g] W w') := fun W h => by
                  have := num20_any W g _ _ acc D false e0 1 h ⟨by omega, by omega⟩ (by omega) (by omega)
                  rw [hy] at this
                  exact this
                simp only [hy] at HTT3
                have e2 : ((e0 : Int) == (z : Int) - 1) = true := by simp; omega
                have hways : (((y : Int) == 0) = true ∧ TT = (l, true)) ∨ (((y : Int) == 0) = false ∧ TT = (l, false)) := by
                  by_cases h0 : y = 0
                  · exact .inl ⟨by simp; omega, by rw [← HTT3]; simp [hez, h0]⟩
                  · exact .inr ⟨by simp; omega, by rw [← HTT3]; simp [h0]⟩
                clear HTT3 hy hez
                rcases hways with ⟨e3, rfl⟩ | ⟨e3, rfl⟩
                all_goals
                  go_wp2_with (first
                    | (go_at_call 63; refine HP.out.mono ?_; rintro e w4 ⟨u, rfl, hu, h4, k4⟩; obtain ⟨UA, uc, rfl⟩ := hu.form; have d4 : w4.cell? ⟨g, 2, none⟩ = some (.bool false) := h4.1.cell_eq rfl; have hu2 := hu.lies; rw [H10.out] at hu2; have HU := Lib.hid hu2; clear hu2; have HF4 := Lib.hid h4; have HK4 := Lib.hid (HKS.out.trans k4 (fun x hx => .inr (by simp at hx; have := HG.out; omega))); clear hu h4 k4)
                    | (go_at_call 44; refine (HNY.out _ HF4.out).mono ?_; rintro e w5 ⟨rfl, h5, k5⟩; have HU5 := Lib.hid (HU.out.keep k5 (fun x hx hc => by simp at hx; omega)); have HZ5 := Lib.hid k5.size; have HK5 := Lib.hid (HK4.out.trans k5 (fun x hx => .inr (by simp at hx; have := HG.out; omega))); clear h5 k5)
                    | fail)
                  go_ret2
                  exact ⟨_, rfl, HU5.out.mono (fun x hx => ⟨by omega, Nat.lt_of_lt_of_le hx.2 HZ5.out⟩), HK5.out⟩
              · obtain rfl : TT = (l, false) := by rw [← HTT3]; simp [hez]
                have e2 : ((e0 : Int) == (z : Int) - 1) = false := by simp; omega
                clear HTT3
                go_wp2_with (first
                  | (go_at_call 63; refine HP.out.mono ?_; rintro e w4 ⟨u, rfl, hu, h4, k4⟩; obtain ⟨UA, uc, rfl⟩ := hu.form; have d4 : w4.cell? ⟨g, 2, none⟩ = some (.bool false) := h4.1.cell_eq rfl; have hu2 := hu.lies; rw [H10.out] at hu2; have HU := Lib.hid hu2; clear hu2; have HK4 := Lib.hid (HKS.out.trans k4 (fun x hx => .inr (by simp at hx; have := HG.out; omega))); clear hu h4 k4)
                  | fail)
                go_ret2
                exact ⟨_, rfl, HU.out.mono (fun x hx => ⟨by omega, hx.2⟩), HK4.out⟩
          · as_aux_lemma =>
            have hVr := hVs.2 hcp
            clear hVs
            go_upto_region 16 with fail
            have hsc : Keep [g] w2 (w2.setCell ⟨g, 1, none⟩ (.slice (some ⟨BB, bo + p, none⟩) z (bc - p))) := (Keep.refl _ _).setCell (.inl (by simp)) _
            have hlf : LfW (w2.setCell ⟨g, 1, none⟩ (.slice (some ⟨BB, bo + p, none⟩) z (bc - p))) g (.slice TA acc.length tc) (.slice (some ⟨BB, bo + p, none⟩) z (bc - p)) acc (b.drop p) false := ⟨by simpa using Blk.set_ HG2.out 1 (.slice (some ⟨BB, bo + p, none⟩) z (bc - p)), RdC.mono (RdC.of_own (by simp) (HO2.out.keep hsc (fun x hx hc => by have := (HO2.out.lt x hx).1; simp at hc; omega)) (fun x hx => (HO2.out.lt x hx).1)) (fun x hx => by omega), (RdC.keep hVr hsc (fun x hx => by simp at hx; omega)).mono (fun x hx => by omega)⟩
            have HKS := Lib.hid (HK2.out.trans hsc (fun x hx => .inr (by simp at hx; have := HG.out; omega)))
            have hgW := hlf.1.lt
            have hDl : (b.drop p).length ≤ 4000 := by rw [List.length_drop]; omega
            clear hpI i1 i3 hcp hbcl hVr hsc d1 f1 hp hle hlD
            generalize w2.setCell ⟨g, 1, none⟩ (.slice (some ⟨BB, bo + p, none⟩) z (bc - p)) = W3 at *
            generalize b.drop p = D at *
            have h10 := H10.out
            have hP := (lifter_all N9 (by omega)).2 W3 g _ _ acc D false 0 hlf (by omega) (by omega)
            rw [show ((N9 : Nat) : Int) = 9 by omega] at hP
            clear h10
            obtain ⟨l, e0, bb, hx⟩ : ∃ x y z, lfF D acc N9 false 0 = (x, y, z) := ⟨_, _, _, rfl⟩
            have he0 := lf_le hx (by omega)
            simp only [hx] at hP HTT3
            have HP := Lib.hid hP
            clear hP
            clear hx hlf HG2 HO2 HRW HK2 HTT2 HRR HO
            have hze := HKS.out.size
            cases bb with
            | true =>
              obtain rfl : TT = (l, false) := by rw [← HTT3]; simp
              clear HTT3
              go_wp2_with (first
                | (go_at_call 63; refine HP.out.mono ?_; rintro e w4 ⟨u, rfl, hu, h4, k4⟩; obtain ⟨UA, uc, rfl⟩ := hu.form; have d4 : w4.cell? ⟨g, 2, none⟩ = some (.bool true) := h4.1.cell_eq rfl; have hu2 := hu.lies; rw [H10.out] at hu2; have HU := Lib.hid hu2; clear hu2; have HK4 := Lib.hid (HKS.out.trans k4 (fun x hx => .inr (by simp at hx; have := HG.out; omega))); clear hu h4 k4)
                | fail)
              go_ret2
              exact ⟨_, rfl, HU.out.mono (fun x hx => ⟨by omega, hx.2⟩), HK4.out⟩
            | false =>
              by_cases hez : e0 + 1 = z
              · obtain ⟨y, c, hy⟩ : ∃ x y, nmL D false e0 1 = (x, y) := ⟨_, _, rfl⟩
                have HNY : Hid (∀ W, LfW W g (.slice TA acc.length tc) (.slice (some ⟨BB, bo + p, none⟩) z (bc - p)) acc D false → Calls Tryz.prog 44 #[.pointer (some ⟨g, 0, none⟩), .int .i64 (e0 : Int), .int .i64 1] W fun e w' => e = .returned (.int .i64 (y : Int)) ∧ LfW w' g (.slice TA acc.length tc) (.slice (some ⟨BB, bo + p, none⟩) z (bc - p)) acc D c ∧ Keep [g] W w') := fun W h => by
                  have := num20_any W g _ _ acc D false e0 1 h ⟨by omega, by omega⟩ (by omega) (by omega)
                  rw [hy] at this
                  exact this
                simp only [hy] at HTT3
                have e2 : ((e0 : Int) == (z : Int) - 1) = true := by simp; omega
                have hways : (((y : Int) == 0) = true ∧ TT = (l, true)) ∨ (((y : Int) == 0) = false ∧ TT = (l, false)) := by
                  by_cases h0 : y = 0
                  · exact .inl ⟨by simp; omega, by rw [← HTT3]; simp [hez, h0]⟩
                  · exact .inr ⟨by simp; omega, by rw [← HTT3]; simp [h0]⟩
                clear HTT3 hy hez
                rcases hways with ⟨e3, rfl⟩ | ⟨e3, rfl⟩
                all_goals
                  go_wp2_with (first
                    | (go_at_call 63; refine HP.out.mono ?_; rintro e w4 ⟨u, rfl, hu, h4, k4⟩; obtain ⟨UA, uc, rfl⟩ := hu.form; have d4 : w4.cell? ⟨g, 2, none⟩ = some (.bool false) := h4.1.cell_eq rfl; have hu2 := hu.lies; rw [H10.out] at hu2; have HU := Lib.hid hu2; clear hu2; have HF4 := Lib.hid h4; have HK4 := Lib.hid (HKS.out.trans k4 (fun x hx => .inr (by simp at hx; have := HG.out; omega))); clear hu h4 k4)
                    | (go_at_call 44; refine (HNY.out _ HF4.out).mono ?_; rintro e w5 ⟨rfl, h5, k5⟩; have HU5 := Lib.hid (HU.out.keep k5 (fun x hx hc => by simp at hx; omega)); have HZ5 := Lib.hid k5.size; have HK5 := Lib.hid (HK4.out.trans k5 (fun x hx => .inr (by simp at hx; have := HG.out; omega))); clear h5 k5)
                    | fail)
                  go_ret2
                  exact ⟨_, rfl, HU5.out.mono (fun x hx => ⟨by omega, Nat.lt_of_lt_of_le hx.2 HZ5.out⟩), HK5.out⟩
              · obtain rfl : TT = (l, false) := by rw [← HTT3]; simp [hez]
                have e2 : ((e0 : Int) == (z : Int) - 1) = false := by simp; omega
                clear HTT3
                go_wp2_with (first
                  | (go_at_call 63; refine HP.out.mono ?_; rintro e w4 ⟨u, rfl, hu, h4, k4⟩; obtain ⟨UA, uc, rfl⟩ := hu.form; have d4 : w4.cell? ⟨g, 2, none⟩ = some (.bool false) := h4.1.cell_eq rfl; have hu2 := hu.lies; rw [H10.out] at hu2; have HU := Lib.hid hu2; clear hu2; have HK4 := Lib.hid (HKS.out.trans k4 (fun x hx => .inr (by simp at hx; have := HG.out; omega))); clear hu h4 k4)
                  | fail)
                go_ret2
                exact ⟨_, rfl, HU.out.mono (fun x hx => ⟨by omega, hx.2⟩), HK4.out⟩
end Go.Proofs.YtmfoiceofhcicaaGreatDoor

namespace Go.Proofs.YtmfoiceofhcicaaGreatDoor
open Go.RowKit Go.IntWalk

/-- What lifted tells. -/
def LiftedO (b : List UInt8) (w : World) (e : Ending) (w' : World) : Prop :=
  Keep [] w w' ∧ match readF b with
  | none => e = .returned (.tuple #[.slice none 0 0, .bool false])
  | some (_, _, l) => ∃ u, e = .returned (.tuple #[u, .bool true]) ∧ Lies 10 (fun x => w.heap.size ≤ x ∧ x < w'.heap.size) w' u l
/-- What is read of bytes is what the lifter lifts. -/
theorem readF_lift {b : List UInt8} {P : List ByteArray} {ops : List OT} {m : List PT} (h : readF b = some (P, ops, m)) : liftR b = (m, true) ∧ (formF 10 m).2 = 0 ∧ codeF 10 m = b := by
  obtain ⟨-, -, hf, hc⟩ := readF_some h
  obtain ⟨hr, -, hd, hb⟩ := form_fine hf
  refine ⟨?_, hf, hc⟩
  rw [← hc]
  exact liftR_code hr (by omega) hd
set_option maxRecDepth 100000 in
set_option maxHeartbeats 4000000 in
/-- lifted. -/
theorem clifted_any (w : World) (B : Nat) (v : Value) (b : List UInt8) (hE : EnvM B w) (h : RdU w v b) (hl : b.length ≤ 4000) :
    Calls Tryz.prog 22 #[v] w (LiftedO b w) := by
  have hLF := clift20_any w v b h hl
  obtain ⟨l, ok, hlf⟩ : ∃ l ok, liftR b = (l, ok) := ⟨_, _, rfl⟩
  rw [hlf] at hLF
  unfold LiftedO
  have HB := Lib.hid h
  obtain ⟨A, c, rfl, -⟩ := h
  cases ok with
  | false =>
    have hr : readF b = none := by
      cases hr : readF b with
      | none => rfl
      | some x =>
        obtain ⟨P, ops, m⟩ := x
        have := (readF_lift hr).1
        rw [hlf] at this
        simp at this
    rw [hr]
    have HLF := Lib.hid hLF
    clear hLF hlf hr hE
    go_enter Tryz.func22, Tryz.ntmps22
    go_wp2_with (first
      | (go_at_call 41; refine HLF.out.mono ?_; rintro e w1 ⟨u, rfl, hu, hk1⟩; obtain ⟨UA, um, uc, rfl⟩ := hu.form; have HK1 := Lib.hid hk1; clear hu hk1)
      | fail)
    go_ret2
    exact ⟨HK1.out, rfl⟩
  | true =>
    have hbk := liftR_bulk hl hlf
    have HCK : Hid (∀ W u, Keep [] w W → Lies 10 (fun x => w.heap.size ≤ x ∧ x < W.heap.size) W u l → Calls Tryz.prog 15 #[u] W fun e w' => e = .returned (.int .i64 (formF 10 l).2) ∧ Keep [] W w') := fun W u hW hu => mcheck_all 10 l _ u B W (hE.keep hW (by simp)) hu (fun x hx => hx.2) hbk
    by_cases hf : (formF 10 l).2 = 0
    · have HCD : Hid (∀ (W W0 : World) u, Lies 10 (fun x => w.heap.size ≤ x ∧ x < W0.heap.size) W u l → Calls Tryz.prog 16 #[u] W fun e w' => ∃ u, e = .returned u ∧ OwnU w' W.heap.size u (codeF 10 l) ∧ Keep [] W w') := fun W W0 u hu => code20_any 10 l _ u W hf hu
      have HLF := Lib.hid hLF
      rw [hf] at HCK
      by_cases hc : codeF 10 l = b
      · have hr : readF b = some (poolF (textF 10 l), codeO 10 l, l) := by
          obtain ⟨h1, -, h3, -⟩ := form_fine hf
          have := (read_code ((shallow 8 10 l false h1 h3).le (by omega)) hf).2.2
          rw [hc] at this
          exact this
        rw [hr]
        have HEQ : Hid (∀ W x y, RdU W x (codeF 10 l) → RdU W y b → Calls Tryz.prog 17 #[x, y] W fun e w' => e = .returned (.bool true) ∧ W = w') := fun W x y hx hy => by
          have := equalU_any W x y _ b hx hy
          rw [decide_eq_true hc] at this
          exact this
        clear hLF hlf hE hf hc hbk hr
        generalize codeF 10 l = C at *
        go_enter Tryz.func22, Tryz.ntmps22
        go_wp2_with (first
          | (go_at_call 41; refine HLF.out.mono ?_; rintro e w1 ⟨u, rfl, hu, hk1⟩; obtain ⟨UA, um, uc, rfl⟩ := hu.form; have HCK1 := Lib.hid (HCK.out w1 _ hk1 hu); have HU := Lib.hid hu; have HK1 := Lib.hid hk1; clear hu hk1)
          | (go_at_call 15; refine HCK1.out.mono ?_; rintro e w2 ⟨rfl, hk2⟩; have HU2 := Lib.hid (HU.out.keep hk2 (by simp)); have HZ2 := Lib.hid hk2.size; have HK2 := Lib.hid (HK1.out.nil hk2); have HCD2 := Lib.hid (HCD.out w2 w1 _ HU2.out); clear hk2)
          | (go_at_call 16; refine HCD2.out.mono ?_; rintro e w3 ⟨u3, rfl, ho3, hk3⟩; obtain ⟨CA, cc, rfl⟩ := ho3.form; have HU3 := Lib.hid (HU2.out.keep hk3 (by simp)); have HZ3 := Lib.hid (Nat.le_trans HZ2.out hk3.size); have HK3 := Lib.hid (HK2.out.nil hk3); have HEQ3 := Lib.hid (HEQ.out w3 _ _ ho3.reads (HB.out.keep HK3.out)); clear ho3 hk3)
          | (go_at_call 17; refine HEQ3.out.mono ?_; rintro e w4 ⟨rfl, rfl⟩)
          | fail)
        go_ret2
        exact ⟨HK3.out, _, rfl, HU3.out.mono (fun x hx => ⟨hx.1, Nat.lt_of_lt_of_le hx.2 HZ3.out⟩)⟩
      · have hr : readF b = none := by
          cases hr : readF b with
          | none => rfl
          | some x =>
            obtain ⟨P, ops, m⟩ := x
            obtain ⟨h1, h2, h3⟩ := readF_lift hr
            rw [hlf] at h1
            injection h1 with h1 _
            subst h1
            exact absurd h3 hc
        rw [hr]
        have HEQ : Hid (∀ W x y, RdU W x (codeF 10 l) → RdU W y b → Calls Tryz.prog 17 #[x, y] W fun e w' => e = .returned (.bool false) ∧ W = w') := fun W x y hx hy => by
          have := equalU_any W x y _ b hx hy
          rw [decide_eq_false hc] at this
          exact this
        clear hLF hlf hE hf hc hbk hr
        generalize codeF 10 l = C at *
        go_enter Tryz.func22, Tryz.ntmps22
        go_wp2_with (first
          | (go_at_call 41; refine HLF.out.mono ?_; rintro e w1 ⟨u, rfl, hu, hk1⟩; obtain ⟨UA, um, uc, rfl⟩ := hu.form; have HCK1 := Lib.hid (HCK.out w1 _ hk1 hu); have HU := Lib.hid hu; have HK1 := Lib.hid hk1; clear hu hk1)
          | (go_at_call 15; refine HCK1.out.mono ?_; rintro e w2 ⟨rfl, hk2⟩; have HU2 := Lib.hid (HU.out.keep hk2 (by simp)); have HK2 := Lib.hid (HK1.out.nil hk2); have HCD2 := Lib.hid (HCD.out w2 w1 _ HU2.out); clear hk2)
          | (go_at_call 16; refine HCD2.out.mono ?_; rintro e w3 ⟨u3, rfl, ho3, hk3⟩; obtain ⟨CA, cc, rfl⟩ := ho3.form; have HK3 := Lib.hid (HK2.out.nil hk3); have HEQ3 := Lib.hid (HEQ.out w3 _ _ ho3.reads (HB.out.keep HK3.out)); clear ho3 hk3)
          | (go_at_call 17; refine HEQ3.out.mono ?_; rintro e w4 ⟨rfl, rfl⟩)
          | fail)
        go_ret2
        exact ⟨HK3.out, rfl⟩
    · have hr : readF b = none := by
        cases hr : readF b with
        | none => rfl
        | some x =>
          obtain ⟨P, ops, m⟩ := x
          obtain ⟨h1, h2, h3⟩ := readF_lift hr
          rw [hlf] at h1
          injection h1 with h1 _
          subst h1
          exact absurd h2 hf
      rw [hr]
      obtain ⟨er, hfe⟩ : ∃ er, (formF 10 l).2 = er := ⟨_, rfl⟩
      rw [hfe] at HCK hf
      have her : (er != 0) = true := by simpa using hf
      have HLF := Lib.hid hLF
      clear hLF hlf hE hf hbk hr hfe
      go_enter Tryz.func22, Tryz.ntmps22
      go_wp2_with (first
        | (go_at_call 41; refine HLF.out.mono ?_; rintro e w1 ⟨u, rfl, hu, hk1⟩; obtain ⟨UA, um, uc, rfl⟩ := hu.form; have HCK1 := Lib.hid (HCK.out w1 _ hk1 hu); have HK1 := Lib.hid hk1; clear hu hk1)
        | (go_at_call 15; refine HCK1.out.mono ?_; rintro e w2 ⟨rfl, hk2⟩; have HK2 := Lib.hid (HK1.out.nil hk2); clear hk2)
        | fail)
      go_ret2
      exact ⟨HK2.out, rfl⟩
end Go.Proofs.YtmfoiceofhcicaaGreatDoor

namespace Go.Proofs.YtmfoiceofhcicaaGreatDoor
open Go.RowKit Go.IntWalk

theorem run_make_cap (n : Nat) (hn : n ≤ 1000000000) (w : World) (N : Int) (hN : N = n) : (Instr.makeSlice 25 (.int .i64 0) (.int .i64 N)).run Tryz.prog w =
    .ok (.slice (some ⟨w.heap.size, 0, none⟩) 0 n) (w.alloc (.cells (Array.replicate n (Value.int .u8 0)) 5)) := by
  subst hN
  rw [← List.toArray_replicate]
  obtain ⟨i0, hi, hz0, hz1, hz2⟩ := info_parts infoU
  have h := run_make (P := Tryz.prog) w 25 5 i0 _ Tryz.underlying25 hi hz0 .i64 .i64 0 n (by omega) (by omega) (by rw [hz2]; omega) (by omega)
  rw [hz1, Int.toNat_natCast, Nat.mul_one] at h
  rw [h]
  have e : madeCells (Value.int .u8 0).cells n = (List.replicate n (Value.int .u8 0)).toArray := by
    apply Array.toList_inj.1
    show (madeCells #[.int .u8 0] n).toList = _
    rw [toList_madeCells_one]
  rw [e]
  rfl
theorem made_cap (w : World) (n : Nat) (hn : n ≤ 1000000000) : OwnU (w.alloc (.cells (Array.replicate n (Value.int .u8 0)) 5)) w.heap.size (.slice (some ⟨w.heap.size, 0, none⟩) 0 n) [] :=
  World.ownsRow_made w _ n (Nat.le_refl _) (by unfold maxLen; omega) (by simp)
theorem append_none_u (W : World) (g N c : Nat) : (Builtin.append_ #[25, 25] 25 #[.slice (some ⟨g, 0, none⟩) 0 N, .slice none 0 c]).run Tryz.prog W = .ok (.slice (some ⟨g, 0, none⟩) 0 N) W := by
  obtain ⟨i0, hi, hz0, hz1, hz2⟩ := info_parts infoU
  simp [Builtin.append_, run_underlying Tryz.underlying25, sizeOf, typeInfo, hi, Builtin.lenOf, Builtin.firstCells, storeCells]
theorem addr_add (x y j : Nat) : (⟨x, y, none⟩ : Addr).add j = ⟨x, y + j, none⟩ := by unfold Addr.add; split <;> simp_all
/-- The last byte. -/
theorem own_last {w : World} {B g m c : Nat} {X : List UInt8} {y : UInt8} (h : OwnU w B (.slice (some ⟨g, 0, none⟩) m c) (X ++ [y])) : w.cell? ⟨g, X.length, none⟩ = some (cellU y) ∧ X.length + 1 ≤ c := by
  obtain ⟨A, c', he, h1, h2, h3⟩ := h.reads
  injection he with he1 he2 he3
  subst he1; subst he3
  rw [List.length_append, List.length_singleton] at h1 h3
  obtain ⟨b, o, hb, -, hlt, hc⟩ := h3 (by omega)
  injection hb with hb
  injection hb with hb1 hb2
  subst hb1; subst hb2
  have := hc X.length (cellU y) (by simp)
  rw [Nat.zero_add] at this
  exact ⟨this, h1⟩
/-- The first bytes of bytes of the call's own. -/
theorem own_head {w : World} {B g m c : Nat} {X Y : List UInt8} (h : OwnU w B (.slice (some ⟨g, 0, none⟩) m c) (X ++ Y)) (hX : 0 < (X ++ Y).length) : RdU w (.slice (some ⟨g, 0, none⟩) X.length c) X := by
  obtain ⟨A, c', he, h1, h2, h3⟩ := h.reads
  injection he with he1 he2 he3
  subst he1; subst he3
  rw [List.length_append] at h1
  refine ⟨_, _, rfl, by omega, h2, fun hn => ?_⟩
  obtain ⟨b, o, hb, -, hlt, hc⟩ := h3 hX
  refine ⟨b, o, hb, trivial, hlt, fun j u hu => hc j u ?_⟩
  rw [List.map_append, List.getElem?_append_left (List.getElem?_eq_some_iff.1 hu).1]
  exact hu
set_option maxRecDepth 100000 in
set_option maxHeartbeats 4000000 in
/-- CodeLifts. -/
theorem law_lifts (b : List UInt8) (vb : Value) (B : Nat) (w : World) (hE : EnvM B w) (hB : RdU w vb b) :
    Calls Tryz.prog 7 #[vb] w fun e w' => e = .returned (.bool true) ∧ Keep [] w w' := by
  have HE := Lib.hid hE
  have HWK := Lib.hid (wakes20_any w hE)
  have HCT : Hid (∀ W, Keep [] w W → Calls Tryz.prog 21 #[vb] W fun e w' => ∃ v', e = .returned v' ∧ RdU w' v' (b.take 4000) ∧ W = w') := fun W hW => cut_any W vb b (hB.keep hW)
  have hblen : (b.take 4000).length ≤ 4000 := by rw [List.length_take]; omega
  obtain ⟨b', hb'⟩ : ∃ b', b.take 4000 = b' := ⟨_, rfl⟩
  rw [hb'] at HCT hblen
  have HLB : Hid (∀ W u, Keep [] w W → RdU W u b' → Calls Tryz.prog 19 #[u] W (LiftA b' W)) := fun W u hW hu => clift_any W B u b' (hE.keep hW (by simp)) hu (by omega) (small_b (by omega))
  have HVB : Hid (∀ W u, Keep [] w W → RdU W u b' → Calls Tryz.prog 20 #[u] W fun e w' => e = .returned (.int .i64 (if (readF b').isSome then 0 else 300)) ∧ Keep [] W w') := fun W u hW hu => cverify_any W B u b' (hE.keep hW (by simp)) hu (by omega) (small_b (by omega))
  have HLD : Hid (∀ W u, Keep [] w W → RdU W u b' → Calls Tryz.prog 22 #[u] W (LiftedO b' W)) := fun W u hW hu => clifted_any W B u b' (hE.keep hW (by simp)) hu hblen
  have hmk := fun W => run_make_cap (b'.length + 3) (by omega) W ((b'.length : Int) + 3) (by omega)
  have HMK := Lib.hid hmk
  clear hE hB hb' hmk
  unfold LiftA at HLB
  unfold LiftedO at HLD
  go_enter Tryz.func7, Tryz.ntmps7
  go_upto_region 4 with (first
    | (go_at_call 9; refine HWK.out.mono ?_; rintro e w1 ⟨rfl, hk1⟩; have HK1 := Lib.hid hk1; have HCT1 := Lib.hid (HCT.out w1 hk1); clear hk1)
    | (go_at_call 21; refine HCT1.out.mono ?_; rintro e w2 ⟨v', rfl, hv', rfl⟩; have HV := Lib.hid hv'; clear hv')
    | fail)
  obtain ⟨A, c, rfl, -, -, hcs⟩ := id HV.out
  have HCS := Lib.hid hcs
  have hmk1 := HMK.out w1
  have hmz := made_cap w1 (b'.length + 3) (by omega)
  have hka : Keep [] w1 (w1.alloc (.cells (Array.replicate (b'.length + 3) (Value.int .u8 0)) 5)) := (Keep.refl _ _).alloc _
  have HMZ := Lib.hid hmz
  have HKA := Lib.hid hka
  have hza : w1.heap.size ≤ (w1.alloc (.cells (Array.replicate (b'.length + 3) (Value.int .u8 0)) 5)).heap.size := hka.size
  clear hcs hmz hka
  go_cut [3] (fun ov W => ∃ g4 c4, ov = .slice (some ⟨g4, 0, none⟩) (b'.length + 1) c4 ∧ OwnU W w1.heap.size ov (b' ++ [7]) ∧ Keep [] w1 W)
  case first =>
    cases A with
    | none =>
      have hn : b' = [] := by
        cases b' with
        | nil => rfl
        | cons x l =>
          obtain ⟨x, y, h, -⟩ := HCS.out (by simp)
          cases h
      subst hn
      clear hmk1 HMZ HKA hza
      have hmk1 := run_make_cap 3 (by omega) w1 3 (by omega)
      have hap := append_none_u (w1.alloc (.cells (Array.replicate 3 (Value.int .u8 0)) 5)) w1.heap.size 3 c
      have HMZ := Lib.hid (made_cap w1 3 (by omega))
      have HKA : Hid (Keep [] w1 (w1.alloc (.cells (Array.replicate 3 (Value.int .u8 0)) 5))) := (Keep.refl _ _).alloc _
      have hza : w1.heap.size ≤ (w1.alloc (.cells (Array.replicate 3 (Value.int .u8 0)) 5)).heap.size := HKA.out.size
      go_wp2
      go_meet
      refine ⟨w1.heap.size, 3, rfl, ⟨by simp, .inr ⟨w1.heap.size, 3, (Array.replicate 3 (Value.int .u8 0)).setIfInBounds 0 (Value.int .u8 7), rfl, Nat.le_refl _, ?_, by simp, by unfold maxLen; omega, by simp, rfl⟩⟩, ((Keep.refl [] w1).alloc _).alloc _⟩
      exact (Below.heap_alloc _ _ _ (by simp)).trans (heap_alloc_new w1 _)
    | some ad =>
      have hcc : ∀ j u, (b'.map cellU)[j]? = some u → (w1.alloc (.cells (Array.replicate (b'.length + 3) (Value.int .u8 0)) 5)).cell? (ad.add j) = some u := fun j u hu => by
        have hj : 0 < b'.length := by have := (List.getElem?_eq_some_iff.1 hu).1; simp at this; omega
        obtain ⟨x, y, hx, -, hlt, hc⟩ := HCS.out hj
        injection hx with hx
        subst hx
        rw [addr_add]
        exact (HKA.out.cell (p := ⟨x, y + j, none⟩) hlt (by simp)).trans (hc j u hu)
      have HCC := Lib.hid hcc
      clear hcc
      go_wp2_with (first
        | (at_builtin; refine wpList_append_us rfl _ _ rfl rfl HMZ.out b' ad c rfl HCC.out (by simp; omega) hza ?_; intro v3 w3 ho3 hk3; rw [List.nil_append] at ho3; obtain ⟨A3, c3, rfl⟩ := ho3.form; have HO3 := Lib.hid ho3; have HK3 := Lib.hid (HKA.out.trans hk3 (fun x hx => .inr (HMZ.out.lt x hx).1)); clear ho3 hk3)
        | (at_builtin; refine wpList_append_us rfl _ _ rfl rfl (HO3.out.alloc _) [7] ⟨w3.heap.size, 0, none⟩ 1 rfl (new_cellsU w3 _ rfl [cellU 7] _) (by simp; omega) (by have := HK3.out.size; simp; omega) ?_; intro v4 w4 ho4 hk4; have HO4 := Lib.hid ho4; have HK4 := Lib.hid ((HK3.out.alloc _).trans hk4 (fun x hx => .inr (HO3.out.lt x hx).1)); clear ho4 hk4)
        | fail)
      go_meet
      obtain ⟨g4, c4, rfl⟩ := own_form HO4.out (by simp)
      refine ⟨g4, c4, by simp, HO4.out, HK4.out⟩
  case rest =>
    obtain ⟨g4, c4, rfl, hO4, hK4⟩ := hcut
    rename_i W4
    have hcap := (own_last hO4).2
    have hcI : (b'.length : Int) ≤ (c4 : Int) := by omega
    have hle1 : (b'.length : Int) < (b'.length : Int) + 1 := by omega
    have HO4 := Lib.hid hO4
    have HK4 := Lib.hid (HK1.out.nil hK4)
    have HV4 := Lib.hid (HV.out.keep hK4)
    have hLD := HLD.out _ _ HK4.out HV4.out
    have hpos : 0 < (b' ++ [7]).length := by simp
    clear hO4 hK4 hmk1 hza HLD HCS HMZ HKA
    cases hr : readF b' with
    | none =>
      rw [hr] at hLD HLB HVB
      have HLD := Lib.hid hLD
      clear hLD
      go_wp2_with (first
        | (go_at_call 22; refine HLD.out.mono ?_; rintro e w5 ⟨hk5, rfl⟩; have HO5 := Lib.hid (HO4.out.keep hk5 (by simp)); have HK5 := Lib.hid (HK4.out.nil hk5); have HV5 := Lib.hid (HV4.out.keep hk5); have HLB5 := Lib.hid (HLB.out w5 _ HK5.out (own_head HO5.out hpos)); clear hk5)
        | (go_at_call 19; refine HLB5.out.mono ?_; rintro e w6 ⟨hk6, rfl⟩; have HO6 := Lib.hid (HO5.out.keep hk6 (by simp)); have HK6 := Lib.hid (HK5.out.nil hk6); have HV6 := Lib.hid (HV5.out.keep hk6); have HVB6 := Lib.hid (HVB.out w6 _ HK6.out (own_head HO6.out hpos)); clear hk6)
        | (go_at_call 20; refine HVB6.out.mono ?_; rintro e w7 ⟨rfl, hk7⟩; have hO7 := HO6.out.keep hk7 (by simp); have x7 : w7.cell? ⟨g4, b'.length, none⟩ = some (.int .u8 7) := (own_last hO7).1; have HK7 := Lib.hid (HK6.out.nil hk7); have HEQ7 := Lib.hid (equalU_any w7 _ _ b' b' (own_head hO7 hpos) (HV6.out.keep hk7)); rw [decide_eq_true rfl] at HEQ7; clear hk7 hO7)
        | (go_at_call 17; refine HEQ7.out.mono ?_; rintro e w8 ⟨rfl, rfl⟩)
        | fail)
      go_ret
      exact ⟨rfl, HK7.out⟩
    | some x =>
      obtain ⟨P, ops, m⟩ := x
      have hbm : bulkF 10 m ≤ 8192 := (form_fine (readF_lift hr).2.1).2.2.2
      have HSM : Hid (∀ W S S' u u', Lies 10 S W u m → Lies 10 S' W u' m → Calls Tryz.prog 18 #[u, u'] W fun e w' => e = .returned (.bool true) ∧ Keep [] W w') := fun W S S' u u' hu hu' => by
        have h := same_any 10 m m S S' u u' W hu hu' (by omega) (by omega)
        rw [sameF_self] at h
        exact h
      rw [hr] at hLD HLB HVB
      have HLD := Lib.hid hLD
      clear hLD hr hbm
      go_wp2_with (first
        | (go_at_call 22; refine HLD.out.mono ?_; rintro e w5 ⟨hk5, u5, rfl, hu5⟩; obtain ⟨A5, m5, k5, rfl⟩ := hu5.form; have HU5 := Lib.hid hu5; have HO5 := Lib.hid (HO4.out.keep hk5 (by simp)); have HK5 := Lib.hid (HK4.out.nil hk5); have HV5 := Lib.hid (HV4.out.keep hk5); have HLB5 := Lib.hid (HLB.out w5 _ HK5.out (own_head HO5.out hpos)); clear hk5 hu5)
        | (go_at_call 19; refine HLB5.out.mono ?_; rintro e w6 ⟨hk6, u6, rfl, hu6⟩; obtain ⟨A6, m6, k6, rfl⟩ := hu6.form; have HL6 := Lib.hid hu6; have HU6 := Lib.hid (HU5.out.keep hk6 (by simp)); have HO6 := Lib.hid (HO5.out.keep hk6 (by simp)); have HK6 := Lib.hid (HK5.out.nil hk6); have HV6 := Lib.hid (HV5.out.keep hk6); have HVB6 := Lib.hid (HVB.out w6 _ HK6.out (own_head HO6.out hpos)); clear hk6 hu6)
        | (go_at_call 20; refine HVB6.out.mono ?_; rintro e w7 ⟨rfl, hk7⟩; have hO7 := HO6.out.keep hk7 (by simp); have x7 : w7.cell? ⟨g4, b'.length, none⟩ = some (.int .u8 7) := (own_last hO7).1; have HK7 := Lib.hid (HK6.out.nil hk7); have HSM7 := Lib.hid (HSM.out w7 _ _ _ _ (HL6.out.keep hk7 (by simp)) (HU6.out.keep hk7 (by simp))); have HEQ7 := Lib.hid (equalU_any w7 _ _ b' b' (own_head hO7 hpos) (HV6.out.keep hk7)); rw [decide_eq_true rfl] at HEQ7; clear hk7 hO7)
        | (go_at_call 17; refine HEQ7.out.mono ?_; rintro e w8 ⟨rfl, rfl⟩)
        | (go_at_call 18; refine HSM7.out.mono ?_; rintro e w9 ⟨rfl, hk9⟩; have HK9 := Lib.hid (HK7.out.nil hk9); clear hk9)
        | fail)
      go_ret
      exact ⟨rfl, HK9.out⟩
end Go.Proofs.YtmfoiceofhcicaaGreatDoor

namespace Go.Proofs.YtmfoiceofhcicaaGreatDoor
open Go.ChangeShapes Go.WideShapes Go.ChangeAt Go.RowKit

theorem own : ownKnob Tryz.prog.godebug = none := by kernel_rfl
theorem laidOut : laidOutB Tryz.prog = true := by kernel_rfl
theorem acc_eq : (Rows.laid_unicode_utf8_acceptRanges : DataW Unit) = Lib.acceptData := by kernel_rfl
theorem first_eq : Rows.laid_unicode_utf8_first = Lib.firstData := Pinned.utf8First_eq
theorem pow_eq : (Rows.laid_internal_strconv_uint64pow10 : DataW Unit) = Lib.tabData .u64 Lib.pow10Tab := by kernel_rfl
theorem sp_eq : (Rows.laid_strings_asciiSpace : DataW Unit) = Lib.tabData .u8 Lib.asciiSpaceTab := by kernel_rfl
/-- What the six rows list. -/
abbrev laidL : List (String × DataW Unit) := Rows.codeThereUptoRow.laid
theorem tab_of_reads {P : Program} {W : World} {name : String} {k : IntKind} {zs : List Int} {g : Nat} {t e : TypeId} {n : Nat}
    (hg : P.globalNamed name = some g) (hty : (P.globals[g]?).map (·.type) = some t) (ht : P.underlying t = some (.array n e)) (he : P.underlying e = some (.int k)) (hce : P.cellsOf e = 1) (hct : P.cellsOf t = n)
    (h : Lib.VarReads P W name (Lib.tabData k zs)) : Lib.TabIs P W name k zs := by
  obtain ⟨g', t', cs, fuel, p, hg', ht', hvar, hd⟩ := h
  obtain rfl := Option.some.inj (hg.symm.trans hg')
  obtain rfl := Option.some.inj (hty.symm.trans ht')
  unfold Lib.TabIs
  rw [hvar, ← Lib.cells_of_tab ht he hce hct hd]
theorem ev_of_reads {P : Program} {W : World} {name nm : String} {d : DataW Unit} {g : Nat} {t : TypeId} {ms : Array (String × TypeId)}
    (hg : P.globalNamed name = some g) (hty : (P.globals[g]?).map (·.type) = some t) (ht : P.underlying t = some (.interface ms))
    (h : Lib.VarReads P W name (.iface nm d)) : ∃ ev, W.cell? ⟨g, 0, none⟩ = some ev ∧ (ev = .nilIface ∨ ∃ te pe, ev = .iface te pe) := by
  obtain ⟨g', t', cs, fuel, p, hg', ht', hvar, hd⟩ := h
  obtain rfl := Option.some.inj (hg.symm.trans hg')
  obtain rfl := Option.some.inj (hty.symm.trans ht')
  have hc := World.var?_cell hg hvar 0
  obtain ⟨l⟩ := cs
  cases fuel with
  | zero => simp [DataW.trod] at hd
  | succ fuel =>
    match l, hd, hc with
    | [], hd, _ => simp [DataW.trod, ht] at hd
    | [v], hd, hc =>
      cases v <;> first | (simp [DataW.trod, ht] at hd; done) | exact ⟨_, by simpa using hc, .inr ⟨_, _, rfl⟩⟩ | exact ⟨_, by simpa using hc, .inl rfl⟩
    | a :: b :: r, hd, _ => simp [DataW.trod, ht] at hd
/-- What the row's list gives: the tables and variables of the library; the ground of the calls. -/
theorem env_m {W : World} (h : laidMetH Tryz.prog laidL W) (hsh : W.ShapedOpen Tryz.prog) : EnvM W.heap.size W := by
  have hL : laidMet Tryz.prog laidL W := h
  have r0 := Lib.laidMet.reads hL (n := "internal/strconv.uint64pow10") (.tail _ (.tail _ (.head _)))
  have r1 := Lib.laidMet.reads hL (n := "unicode/utf8.acceptRanges") (.tail _ (.tail _ (.tail _ (.head _))))
  have r2 := Lib.laidMet.reads hL (n := "strconv.ErrRange") (.tail _ (.tail _ (.tail _ (.tail _ (.head _)))))
  have r3 := Lib.laidMet.reads hL (n := "strconv.ErrSyntax") (.tail _ (.tail _ (.tail _ (.tail _ (.tail _ (.head _))))))
  have r4 := Lib.laidMet.reads hL (n := "strings.asciiSpace") (.tail _ (.tail _ (.tail _ (.tail _ (.tail _ (.tail _ (.tail _ (.head _))))))))
  have r5 := Lib.laidMet.reads hL (n := "unicode/utf8.first") (.tail _ (.tail _ (.tail _ (.tail _ (.tail _ (.tail _ (.tail _ (.tail _ (.head _)))))))))
  rw [pow_eq] at r0
  rw [acc_eq] at r1
  rw [sp_eq] at r4
  rw [first_eq] at r5
  have hU : Lib.Utf8Tabs 6 7 W := utf8Tabs_of_reads (ρ := Tryz.lays260_ren) { Tryz.lays260 with } ⟨by kernel_rfl, by kernel_rfl, by kernel_rfl, by kernel_rfl, by kernel_rfl, by kernel_rfl, by kernel_rfl⟩ r5 r1
  have hV : Vars W := ⟨tab_of_reads named_pow (by kernel_rfl) Tryz.underlying249 Tryz.underlying188 (by kernel_rfl) (by kernel_rfl) r0,
    tab_of_reads named_sp (by kernel_rfl) Tryz.underlying191 Tryz.underlying5 (by kernel_rfl) (by kernel_rfl) r4,
    ev_of_reads (by kernel_rfl) (by kernel_rfl) Tryz.underlying146 r3,
    ev_of_reads (by kernel_rfl) (by kernel_rfl) Tryz.underlying146 r2,
    Tryz.laysM138.s1_3 W hsh⟩
  refine ⟨⟨?_, Nat.le_refl _, hU⟩, hV⟩
  obtain ⟨cs, hh, _⟩ := hsh.1 10 #[.pointer none] 217 (of_decide_eq_true (by kernel_rfl)) (by kernel_rfl)
  exact (Array.getElem?_eq_some_iff.1 hh).1

/-- A world for the witness: the settled one, the variables holding what their initialisers lay. -/
noncomputable def laidWorld (os : Os) : World :=
  let N := (World.settled Tryz.prog os).heap.size
  let w0 := World.holding Tryz.prog os ⟨#[.cells (Lib.whiteT.map fun (z : Nat) => Value.int .u16 (z : Int)).toArray 235, .cells #[.slice (some ⟨N, 0, none⟩) 7 7, .slice none 0 0, .int .i64 2] 233,
    .cells #[.string ⟨#[118, 97, 108, 117, 101, 32, 111, 117, 116, 32, 111, 102, 32, 114, 97, 110, 103, 101]⟩] 265, .cells #[.string ⟨#[105, 110, 118, 97, 108, 105, 100, 32, 115, 121, 110, 116, 97, 120]⟩] 265], #[], []⟩
  let put (h : Array Obj) (g : Nat) (cs : Array Value) : Array Obj := h.modify g fun
    | .cells _ t frozen => .cells cs t frozen
    | o => o
  let h1 := put w0.heap 6 (Lib.firstTab.map fun z => Value.int .u8 z).toArray
  let h2 := put h1 7 ((List.range 16).flatMap fun i => [Value.int .u8 (Lib.accLo i), Value.int .u8 (Lib.accHi i)]).toArray
  let h3 := put h2 0 (Lib.asciiSpaceTab.map fun z => Value.int .u8 z).toArray
  let h4 := put h3 3 (Lib.pow10Tab.map fun z => Value.int .u64 z).toArray
  let h5 := put h4 8 (Lib.deBruijn32tab.map fun (z : Nat) => Value.int .u8 (z : Int)).toArray
  let h6 := put h5 9 (Lib.deBruijn64tab.map fun (z : Nat) => Value.int .u8 (z : Int)).toArray
  let h7 := put h6 1 #[.pointer (some ⟨N + 1, 0, none⟩)]
  let h8 := put h7 5 #[.iface 263 (.pointer (some ⟨N + 2, 0, none⟩))]
  let h9 := put h8 4 #[.iface 263 (.pointer (some ⟨N + 3, 0, none⟩))]
  { w0 with heap := h9 }
theorem laid_met (os : Os) (args : Array Value) : laidMet Tryz.prog laidL ((laidWorld os).forCall (fun _ _ => 0) ⟨#[], args, []⟩).memory :=
  (LaidIn.of_run (List.range 64) 8 (by kernel_rfl) (by kernel_rfl) (by kernel_rfl) (by kernel_rfl)).met
end Go.Proofs.YtmfoiceofhcicaaGreatDoor

namespace Go.Proofs.YtmfoiceofhcicaaGreatDoor
open Go.ChangeShapes Go.WideShapes Go.ChangeAt Go.RowKit

/-- The blocks that there are. -/
abbrev InW (w : World) : Nat → Prop := fun x => x < w.heap.size
theorem cellsPart : Tryz.prog.cellsOf 68 = 7 := by kernel_rfl
theorem cellsCase : Tryz.prog.cellsOf 70 = 2 := by kernel_rfl
theorem cellsInt : Tryz.prog.cellsOf 3 = 1 := by kernel_rfl
theorem cellsStr : Tryz.prog.cellsOf 9 = 1 := by kernel_rfl
theorem cellsParts : Tryz.prog.cellsOf 22 = 1 := by kernel_rfl
theorem cellsCases : Tryz.prog.cellsOf 66 = 1 := by kernel_rfl
section
variable {H : Type} {enc : TypeId × Value → H} {w : World} {base : Nat} {spare : Nat → Bool} {held : Bool}
theorem up_lit (k : IntKind) (z : Int) : Rows.uptoBulk (DataW.lit (H := H) (.int k z)) = 1 := by simp [Rows.uptoBulk]
theorem up_str (t : ByteArray) : Rows.uptoBulk (DataW.lit (H := H) (.string t.data.toList)) = t.size + 1 := by
  simp [Rows.uptoBulk]
theorem up_append (a b : List (DataW H)) : Rows.uptoBulkAll (a ++ b) = Rows.uptoBulkAll a + Rows.uptoBulkAll b := by
  induction a with
  | nil => simp [Rows.uptoBulkAll]
  | cons x r ih => simp only [List.cons_append, Rows.uptoBulkAll, ih]; omega
theorem up_at : ∀ (l : List (DataW H)) (i : Nat) (d : DataW H), l[i]? = some d → Rows.uptoBulk d ≤ Rows.uptoBulkAll l
  | x :: r, 0, d, h => by simp at h; subst h; simp only [Rows.uptoBulkAll]; omega
  | x :: r, i + 1, d, h => by have := up_at r i d (by simpa using h); simp only [Rows.uptoBulkAll]; omega
theorem flatten_at {size : Nat} : ∀ (rows : List (List Value)) (_ : ∀ (i : Nat) r, rows[i]? = some r → r.length = size) (_ : 0 < size) (j : Nat) (u : Value), rows.flatten[j]? = some u →
    ∃ r, rows[j / size]? = some r ∧ r[j % size]? = some u
  | [], _, _, j, u, h => by simp at h
  | r :: rows, hr, hs, j, u, h => by
    have h0 := hr 0 r rfl
    rw [List.flatten_cons] at h
    by_cases hj : j < size
    · rw [List.getElem?_append_left (by omega)] at h
      exact ⟨r, by rw [Nat.div_eq_of_lt hj]; rfl, by rw [Nat.mod_eq_of_lt hj]; exact h⟩
    · rw [List.getElem?_append_right (by omega), h0] at h
      obtain ⟨r', h1, h2⟩ := flatten_at rows (fun i r h => hr (i + 1) r (by simpa using h)) hs (j - size) u h
      have e : j = (j - size) + size := by omega
      refine ⟨r', ?_, ?_⟩
      · rw [e, Nat.add_div_right _ hs]; simpa using h1
      · rw [e, Nat.add_mod_right]; exact h2
theorem open_rows {t e : TypeId} {fuel size : Nat} {c : Value} {x : DataW H × List MemPlace} (ht : Tryz.prog.underlying t = some (.slice e)) (he : Tryz.prog.cellsOf e = size) (hs : 0 < size)
    (h : DataW.trod enc Tryz.prog w base spare held fuel t [c] = some x) :
    ∃ (rows : List (List Value)) (ds : List (DataW H)) (m : Nat), ds.length = rows.length ∧ RdC (InW w) w c rows.length rows.flatten ∧ Rows.uptoBulkAll ds + 1 ≤ Rows.uptoBulk x.1 ∧
      ∀ (i : Nat) r d, rows[i]? = some r → ds[i]? = some d → r.length = size ∧ ∃ pl, DataW.trod enc Tryz.prog w base spare held m e r = some (d, pl) := by
  rcases Deep.open_slice ht h with ⟨hc, rfl⟩ | ⟨a, len, cap, m, n', D, Pl, hc, hb, hl, hm, hmm, rfl, hx⟩
  · simp at hc
    subst hc
    exact ⟨[], [], 0, rfl, RdC.nil _ w, by simp [Rows.uptoBulkAll, Rows.uptoBulk], fun i r d h => by simp at h⟩
  · simp at hc
    subst hc
    have hlm : len ≤ m := by rw [hmm]; split <;> omega
    rw [he] at hx
    have hx2 : ∀ i, i < len → ∃ r : List Value, r.length = size ∧ (∀ j, j < size → w.cell? (a.add (i * size + j)) = r[j]?) ∧ DataW.trod enc Tryz.prog w base spare held n' e r = some (D i, Pl i) := fun i hi => by
      obtain ⟨cs', h1, h2⟩ := hx i (by omega)
      obtain ⟨_, h4, h3⟩ := World.cells?_some h1
      exact ⟨cs', h4, fun j hj => by rw [← add_of_add]; exact h3 j hj, h2⟩
    have hI : Inhabited (List Value) := ⟨[]⟩
    obtain ⟨f, hf⟩ := Deep.choose_lt hx2
    have hrow : ∀ (i : Nat) r, ((List.range len).map f)[i]? = some r → i < len ∧ r = f i := fun i r h => by
      have hi : i < len := by have := (List.getElem?_eq_some_iff.1 h).1; simpa using this
      rw [List.getElem?_map, List.getElem?_range hi] at h
      exact ⟨hi, by simpa using h.symm⟩
    refine ⟨(List.range len).map f, (List.range len).map D, n', by simp, ⟨some a, cap, by simp, by simpa using hl, hm, fun hne => ?_⟩, ?_, fun i r d h1 h2 => ?_⟩
    · have hlen : 0 < len := by simpa using hne
      have h00 := (hf 0 hlen).2.1 0 hs
      obtain ⟨r0, hr0⟩ : ∃ u, (f 0)[0]? = some u := ⟨_, List.getElem?_eq_getElem (by rw [(hf 0 hlen).1]; exact hs)⟩
      have hsp : a.spot = none ∧ a.block < w.heap.size := by
        rw [show a.add (0 * size + 0) = a by simp [Addr.add], hr0] at h00
        have h01 := h00
        unfold World.cell? at h01
        split at h01
        · rename_i heq
          refine ⟨?_, (Array.getElem?_eq_some_iff.1 heq).1⟩
          cases hs : a.spot with
          | none => rfl
          | some _ => rw [hs] at h01; simp at h01
        · cases h01
      obtain ⟨b, o, sp⟩ := a
      obtain ⟨hs1, hs2⟩ := hsp
      simp only at hs1 hs2
      subst hs1
      refine ⟨b, o, rfl, hs2, hs2, fun j u hu => ?_⟩
      obtain ⟨r, h1, h2⟩ := flatten_at ((List.range len).map f) (size := size) (fun i r h => by obtain ⟨hi, rfl⟩ := hrow i r h; exact (hf i hi).1) hs j u hu
      obtain ⟨hi, rfl⟩ := hrow _ _ h1
      have := (hf (j / size) hi).2.1 (j % size) (Nat.mod_lt _ hs)
      rw [h2, show j / size * size + j % size = j by rw [Nat.mul_comm]; exact Nat.div_add_mod ..] at this
      rw [← this]
      unfold Addr.add
      split <;> simp_all
    · simp only [Rows.uptoBulk]; omega
    · obtain ⟨hi, rfl⟩ := hrow i r h1
      rw [List.getElem?_map, List.getElem?_range hi] at h2
      obtain rfl : D i = d := by simpa using h2
      exact ⟨(hf i hi).1, _, (hf i hi).2.2⟩
set_option maxRecDepth 100000 in
theorem open_part {n : Nat} {cs : List Value} {d : DataW H} {pl : List MemPlace} (h : DataW.trod enc Tryz.prog w base spare held n 68 cs = some (d, pl)) :
    ∃ (k : Int) (tx nm ty st : ByteArray) (off : Int) (cv : Value) (y : DataW H × List MemPlace) (m : Nat), cs = [.int .i64 k, .string tx, .string nm, .string ty, .string st, .int .i64 off, cv] ∧
      DataW.trod enc Tryz.prog w base spare held m 66 [cv] = some y ∧ 1 + tx.size + nm.size + ty.size + st.size + Rows.uptoBulk y.1 ≤ Rows.uptoBulk d := by
  obtain ⟨xs, m, rfl, hx, hl, hxl, hall⟩ := DataW.trod_struct Tryz.underlying68 h
  simp only [Prod.mk.injEq] at hx
  obtain ⟨rfl, _⟩ := hx
  rw [cellsPart] at hl
  match cs, hl with
  | [c0, c1, c2, c3, c4, c5, c6], _ =>
    have h0 : DataW.trod enc Tryz.prog w base spare held m 3 (([c0, c1, c2, c3, c4, c5, c6].drop 0).take (Tryz.prog.cellsOf 3)) = xs[0]? := hall 0 _ rfl
    have h1 : DataW.trod enc Tryz.prog w base spare held m 9 (([c0, c1, c2, c3, c4, c5, c6].drop 1).take (Tryz.prog.cellsOf 9)) = xs[1]? := hall 1 _ rfl
    have h2 : DataW.trod enc Tryz.prog w base spare held m 9 (([c0, c1, c2, c3, c4, c5, c6].drop 2).take (Tryz.prog.cellsOf 9)) = xs[2]? := hall 2 _ rfl
    have h3 : DataW.trod enc Tryz.prog w base spare held m 9 (([c0, c1, c2, c3, c4, c5, c6].drop 3).take (Tryz.prog.cellsOf 9)) = xs[3]? := hall 3 _ rfl
    have h4 : DataW.trod enc Tryz.prog w base spare held m 9 (([c0, c1, c2, c3, c4, c5, c6].drop 4).take (Tryz.prog.cellsOf 9)) = xs[4]? := hall 4 _ rfl
    have h5 : DataW.trod enc Tryz.prog w base spare held m 3 (([c0, c1, c2, c3, c4, c5, c6].drop 5).take (Tryz.prog.cellsOf 3)) = xs[5]? := hall 5 _ rfl
    have h6 : DataW.trod enc Tryz.prog w base spare held m 66 (([c0, c1, c2, c3, c4, c5, c6].drop 6).take (Tryz.prog.cellsOf 66)) = xs[6]? := hall 6 _ rfl
    rw [cellsInt] at h0 h5
    rw [cellsStr] at h1 h2 h3 h4
    rw [cellsCases] at h6
    match xs, hxl with
    | [y0, y1, y2, y3, y4, y5, y6], _ =>
      obtain ⟨k, e0, rfl, _⟩ := DataW.trod_int Tryz.underlying3 h0
      obtain ⟨t1, e1, rfl, _⟩ := DataW.trod_string Tryz.underlying9 h1
      obtain ⟨t2, e2, rfl, _⟩ := DataW.trod_string Tryz.underlying9 h2
      obtain ⟨t3, e3, rfl, _⟩ := DataW.trod_string Tryz.underlying9 h3
      obtain ⟨t4, e4, rfl, _⟩ := DataW.trod_string Tryz.underlying9 h4
      obtain ⟨z, e5, rfl, _⟩ := DataW.trod_int Tryz.underlying3 h5
      simp at e0 e1 e2 e3 e4 e5
      subst e0 e1 e2 e3 e4 e5
      refine ⟨k, t1, t2, t3, t4, z, c6, y6, m, rfl, by simpa using h6, ?_⟩
      simp only [List.map_cons, List.map_nil, Rows.uptoBulk.eq_def (.agg _), Rows.uptoBulkAll, up_str, up_lit]
      omega
set_option maxRecDepth 100000 in
theorem open_case {n : Nat} {cs : List Value} {d : DataW H} {pl : List MemPlace} (h : DataW.trod enc Tryz.prog w base spare held n 70 cs = some (d, pl)) :
    ∃ (key : ByteArray) (pv : Value) (y : DataW H × List MemPlace) (m : Nat), cs = [.string key, pv] ∧
      DataW.trod enc Tryz.prog w base spare held m 22 [pv] = some y ∧ 1 + key.size + Rows.uptoBulk y.1 ≤ Rows.uptoBulk d := by
  obtain ⟨xs, m, rfl, hx, hl, hxl, hall⟩ := DataW.trod_struct Tryz.underlying70 h
  simp only [Prod.mk.injEq] at hx
  obtain ⟨rfl, _⟩ := hx
  rw [cellsCase] at hl
  match cs, hl with
  | [c0, c1], _ =>
    have h0 : DataW.trod enc Tryz.prog w base spare held m 9 (([c0, c1].drop 0).take (Tryz.prog.cellsOf 9)) = xs[0]? := hall 0 _ rfl
    have h1 : DataW.trod enc Tryz.prog w base spare held m 22 (([c0, c1].drop 1).take (Tryz.prog.cellsOf 22)) = xs[1]? := hall 1 _ rfl
    rw [cellsStr] at h0
    rw [cellsParts] at h1
    match xs, hxl with
    | [y0, y1], _ =>
      obtain ⟨t0, e0, rfl, _⟩ := DataW.trod_string Tryz.underlying9 h0
      simp at e0
      subst e0
      refine ⟨t0, c1, y1, m, rfl, by simpa using h1, ?_⟩
      simp only [List.map_cons, List.map_nil, Rows.uptoBulk.eq_def (.agg _), Rows.uptoBulkAll, up_str]
      omega
theorem build_parts {N : Nat} {S : Nat → Prop} : ∀ (rows : List (List Value)) (ds : List (DataW H)), ds.length = rows.length →
    (∀ (i : Nat) r d, rows[i]? = some r → ds[i]? = some d → ∃ (p : PT) (cv : Value), r = p.cells cv ∧ LiesC N S w cv p.cs ∧ ∀ m, 1 + p.tx.size + p.nm.size + p.ty.size + p.st.size + bulkC (bulkF m) p.cs ≤ Rows.uptoBulk d) →
    ∃ (l : List PT) (vs : List Value), l.length = rows.length ∧ vs.length = l.length ∧ rows.flatten = partC l vs ∧ (∀ (i : Nat) (p : PT) (cv : Value), l[i]? = some p → vs[i]? = some cv → LiesC N S w cv p.cs) ∧ ∀ m, bulkL (bulkF m) l ≤ Rows.uptoBulkAll ds
  | [], [], _, _ => ⟨[], [], rfl, rfl, rfl, fun i p cv h => by simp at h, fun m => Nat.zero_le _⟩
  | r :: rows, d :: ds, hl, hq => by
    obtain ⟨p, cv, rfl, h1, h2⟩ := hq 0 r d rfl rfl
    obtain ⟨l, vs, g1, g2, g3, g4, g5⟩ := build_parts rows ds (by simpa using hl) fun i r d h h' => hq (i + 1) r d (by simpa using h) (by simpa using h')
    refine ⟨p :: l, cv :: vs, by simp [g1], by simp [g2], by rw [List.flatten_cons, g3]; rfl, fun i q u hi hu => ?_, fun m => ?_⟩
    · cases i with
      | zero => simp at hi hu; subst hi; subst hu; exact h1
      | succ i => exact g4 i q u (by simpa using hi) (by simpa using hu)
    · have := h2 m; have := g5 m
      simp only [bulkL, Rows.uptoBulkAll]; omega
theorem build_cases {N : Nat} {S : Nat → Prop} : ∀ (rows : List (List Value)) (ds : List (DataW H)), ds.length = rows.length →
    (∀ (i : Nat) r d, rows[i]? = some r → ds[i]? = some d → ∃ (c : CT) (pv : Value), r = [.string c.1, pv] ∧ Lies N S w pv c.2 ∧ ∀ m, 1 + c.1.size + bulkF m c.2 ≤ Rows.uptoBulk d) →
    ∃ (l : List CT) (us : List Value), l.length = rows.length ∧ us.length = l.length ∧ rows.flatten = caseC l us ∧ (∀ (i : Nat) (c : CT) (pv : Value), l[i]? = some c → us[i]? = some pv → Lies N S w pv c.2) ∧ ∀ m, bulkC (bulkF m) l ≤ Rows.uptoBulkAll ds
  | [], [], _, _ => ⟨[], [], rfl, rfl, rfl, fun i p cv h => by simp at h, fun m => Nat.zero_le _⟩
  | r :: rows, d :: ds, hl, hq => by
    obtain ⟨c, pv, rfl, h1, h2⟩ := hq 0 r d rfl rfl
    obtain ⟨l, us, g1, g2, g3, g4, g5⟩ := build_cases rows ds (by simpa using hl) fun i r d h h' => hq (i + 1) r d (by simpa using h) (by simpa using h')
    refine ⟨c :: l, pv :: us, by simp [g1], by simp [g2], by rw [List.flatten_cons, g3]; rfl, fun i q u hi hu => ?_, fun m => ?_⟩
    · cases i with
      | zero => simp at hi hu; subst hi; subst hu; exact h1
      | succ i => exact g4 i q u (by simpa using hi) (by simpa using hu)
    · have := h2 m; have := g5 m
      simp only [bulkC, Rows.uptoBulkAll]; omega
/-- Parts, opened: how they lie, and how much there is in them. -/
theorem open_parts : ∀ (N fuel : Nat) (c : Value) (x : DataW H × List MemPlace), DataW.trod enc Tryz.prog w base spare held fuel 22 [c] = some x → Rows.uptoBulk x.1 ≤ N →
    ∃ l, Lies (N + 1) (InW w) w c l ∧ ∀ m, bulkF m l ≤ Rows.uptoBulk x.1
  | N, fuel, c, x, h, hN => by
    obtain ⟨rows, ds, m, hlen, hr, hb, hall⟩ := open_rows Tryz.underlying22 cellsPart (by omega) h
    cases N with
    | zero => omega
    | succ N =>
      obtain ⟨l, vs, g1, g2, g3, g4, g5⟩ := build_parts (w := w) (N := N + 1) (S := InW w) rows ds hlen fun i r d h1 h2 => by
        obtain ⟨_, pl, h3⟩ := hall i r d h1 h2
        obtain ⟨k, tx, nm, ty, st, off, cv, y, m', rfl, h4, h5⟩ := open_part h3
        have hd := up_at ds i d h2
        obtain ⟨rows', ds', m'', hlen', hr', hb', hall'⟩ := open_rows Tryz.underlying66 cellsCase (by omega) h4
        obtain ⟨cs, us, f1, f2, f3, f4, f5⟩ := build_cases (w := w) (N := N + 1) (S := InW w) rows' ds' hlen' fun i' r' d' h1' h2' => by
          obtain ⟨_, pl', h3'⟩ := hall' i' r' d' h1' h2'
          obtain ⟨key, pv, y', m3, rfl, h4', h5'⟩ := open_case h3'
          have hd' := up_at ds' i' d' h2'
          obtain ⟨l', hl', hl2⟩ := open_parts N m3 pv y' h4' (by omega)
          exact ⟨(key, l'), pv, rfl, hl', fun m => by have := hl2 m; simp only; omega⟩
        refine ⟨⟨k, tx, nm, ty, st, off, cs⟩, cv, rfl, ⟨us, f2, ?_, f4⟩, fun m => by have := f5 m; simp only; omega⟩
        show RdC (InW w) w cv cs.length (caseC cs us)
        rw [f1, ← f3]
        exact hr'
      refine ⟨l, ⟨vs, g2, ?_, g4⟩, fun m => ?_⟩
      · rw [g1, ← g3]; exact hr
      · cases m with
        | zero => exact Nat.zero_le _
        | succ m => have := g5 m; simp only [bulkF]; omega
end
theorem cellsU8 : Tryz.prog.cellsOf 5 = 1 := by kernel_rfl
theorem build_bytes : ∀ (rows : List (List Value)), (∀ (i : Nat) r, rows[i]? = some r → ∃ c : UInt8, r = [cellU c]) → ∃ l : List UInt8, l.length = rows.length ∧ rows.flatten = l.map cellU
  | [], _ => ⟨[], rfl, rfl⟩
  | r :: rows, h => by
    obtain ⟨c, rfl⟩ := h 0 r rfl
    obtain ⟨l, h1, h2⟩ := build_bytes rows fun i r hr => h (i + 1) r (by simpa using hr)
    exact ⟨c :: l, by simp [h1], by rw [List.flatten_cons, h2]; rfl⟩
theorem u8_of {n : Int} (h : (Lit.int .u8 n).wf = true) : ∃ c : UInt8, (.int .u8 n : Value) = cellU c := by
  have h2 : 0 ≤ n ∧ n < 256 := by
    simp [Lit.wf, IntKind.min, IntKind.max, IntKind.signed, IntKind.bits] at h
    omega
  refine ⟨UInt8.ofNat n.toNat, ?_⟩
  unfold cellU
  rw [UInt8.toNat_ofNat']
  congr 1
  omega
section
variable {H : Type} {enc : TypeId × Value → H} {w : World} {base : Nat} {spare : Nat → Bool} {held : Bool}
/-- Bytes, opened. -/
theorem open_bytes {fuel : Nat} {c : Value} {x : DataW H × List MemPlace} (h : DataW.trod enc Tryz.prog w base spare held fuel 25 [c] = some x) : ∃ l : List UInt8, RdU w c l := by
  obtain ⟨rows, ds, m, hlen, hr, -, hall⟩ := open_rows Tryz.underlying25 cellsU8 (by omega) h
  obtain ⟨l, h1, h2⟩ := build_bytes rows fun i r hi => by
    obtain ⟨d, hd⟩ : ∃ d, ds[i]? = some d := ⟨_, List.getElem?_eq_getElem (by rw [hlen]; exact (List.getElem?_eq_some_iff.1 hi).1)⟩
    obtain ⟨_, pl, h3⟩ := hall i r d hi hd
    obtain ⟨n, rfl, -, hw⟩ := DataW.trod_int Tryz.underlying5 h3
    obtain ⟨c, hc⟩ := u8_of hw
    exact ⟨c, by rw [hc]⟩
  refine ⟨l, ?_⟩
  unfold RdU
  rw [h1, ← h2]
  exact hr.mono fun _ _ => trivial
end
end Go.Proofs.YtmfoiceofhcicaaGreatDoor

namespace Go.Proofs.YtmfoiceofhcicaaGreatDoor.clifts
open Go.ChangeShapes Go.WideShapes Go.ChangeAt Go.RowKit

set_option maxRecDepth 100000 in
theorem contract (H : Type) (enc : TypeId × Value → H) (W : World) (base : Nat) (args : Array Value) (ds gs : List (DataW H)) (before : List MemPlace)
    (hval : ∀ (j : Nat) t v, Tryz.f7.params[j]? = some t → args[j]? = some v → Value.okWide Tryz.prog W .any base t v)
    (hW : DataW.Whole enc Tryz.prog Tryz.f7.params.toList Rows.codeLiftsSpec.vars false W args.toList ds gs before)
    (hL : laidMetH Tryz.prog Rows.codeLiftsRow.laid W) (hsh : W.ShapedOpen Tryz.prog) :
    Calls Tryz.prog 7 args W fun e W' => ∃ v, e = .returned v ∧ Rows.codeLiftsSpec.post enc Tryz.prog Tryz.f7 false true false false W args v W' := by
  have hW' := hW
  obtain ⟨p, q, hA0, hV, rfl, hfz, hnd⟩ := hW
  have hA : DataW.TrodAll enc Tryz.prog W 0 (fun _ => true) true Tryz.f7.params.toList args.toList ds p := hA0
  have hA1 := hA
  rw [Tryz.params7] at hA hval
  obtain ⟨v0, vs0, d0, ds0, p0, q0, hargs, rfl, rfl, h0, r0⟩ := trodAll_cons hA
  obtain ⟨rfl, rfl, rfl⟩ := trodAll_nil r0
  obtain rfl : args = #[v0] := by cases args; simp_all
  obtain ⟨rfl, rfl⟩ := trodVars_none hV
  have hlt := fun x hx => hW'.lt x hx
  have g0 := h0
  obtain ⟨A1, m1, k1, rfl⟩ := okWide_slice Tryz.underlying25 (hval 0 25 v0 rfl rfl)
  obtain ⟨fuel1, hf1⟩ := h0
  have hf3 : DataW.trod enc Tryz.prog W 0 (fun _ => true) true fuel1 25 [.slice A1 m1 k1] = some (d0, p0) := hf1
  obtain ⟨b, hB⟩ := open_bytes hf3
  refine (law_lifts b (.slice A1 m1 k1) _ W (env_m hL hsh) hB).mono fun e W' ⟨he, hk⟩ => ?_
  subst he
  have hb := hk.toBelow
  have t0 := hb.trod laidOut (by kernel_rfl) (of_decide_eq_true (by kernel_rfl)) g0 (fun x hx => hlt x (by simp [hx]))
  exact ⟨_, rfl, _, _, _, [], _, [], hW', trodAll_cons_mk (shut_bool Tryz.underlying4 _) trodAll_mk0, trodAll_cons_mk t0 trodAll_mk0, rfl, hb.frame _, fun h => by cases h⟩

theorem reads (os : Os) {H : Type} (enc : TypeId × Value → H) : ∃ places, DataW.whole enc Tryz.prog ((laidWorld os).forCall (fun _ _ => 0) ⟨#[], #[.slice none 0 0], []⟩).memory Tryz.f7.params.toList Rows.codeLiftsSpec.vars false #[.slice none 0 0].toList 8 = some ([.nil], [], places) :=
  ⟨[], by kernel_rfl⟩

set_option maxRecDepth 100000 in
theorem lifted (os : Os) (started : os.Started) (H : Type) (enc : TypeId × Value → H) (F : Stop.Interp) :
    ReturnsInHanded {} Tryz.checked os 7 .any ((OpenSpec.ofChange Rows.codeLiftsSpec).preRow enc Tryz.prog Tryz.f7 Rows.codeLiftsRow.domain false Rows.codeLiftsRow.laid) (((OpenSpec.ofChange Rows.codeLiftsSpec).at F).post enc Tryz.prog Tryz.f7 false true false false) := by
  obtain ⟨places, hx⟩ := reads os enc
  refine returnsInHanded_of_row (C := Tryz.checked) (s := OpenSpec.ofChange Rows.codeLiftsSpec) own started (by kernel_rfl) Tryz.func7
    (witness_row_atRef (enc := enc) (C := Tryz.checked) false (laidWorld os) #[.slice none 0 0] rfl (by kernel_rfl) (by kernel_rfl) (by kernel_rfl)
      (OpenSpec.preRow_of_cond 8 hx (by kernel_rfl) (fun k hk => by cases hk) (by kernel_rfl) (laid_met os _))) ?_
  intro W base args ds gs before hval hW _ _ _ hL hsh _
  exact contract H enc W base args ds gs before hval hW hL hsh

theorem said : Rows.CodeLiftsSaid :=
  OpenClaim.holds_of_cond 7 Tryz.f7 rfl rfl rfl rfl rfl rfl rfl ⟨rfl, rfl, rfl, rfl, rfl⟩ rfl rfl rfl rfl rfl (by kernel_rfl) Tryz.func7 (by kernel_rfl)
    (of_decide_eq_true (by kernel_rfl)) (by unfold Func.isWrapper; first | (rw [if_pos (by decide +kernel)]; kernel_rfl) | (rw [if_neg (by decide +kernel)]; exact ⟨rfl, rfl⟩))
    (fun os started H enc _ F => by rw [OpenClaim.pre_eq_preRow]; exact lifted os started H enc F)
theorem plain (f : FuncId) (fn : Func) (hf : Tryz.pinned.checked.prog.funcNamed "vernacular/vernacularlaw20.CodeLifts" = some f) (hfn : Tryz.pinned.checked.prog.funcs[f]? = some fn) :
    true = Tryz.pinned.checked.prog.looks [] ∧ ∀ (j : Nat) t, fn.params[j]? = some t → Tryz.pinned.checked.prog.wantsStandIn t = false := by
  obtain rfl : f = 7 := Option.some.inj ((show Tryz.prog.funcNamed "vernacular/vernacularlaw20.CodeLifts" = some 7 by kernel_rfl).symm.trans hf) |>.symm
  obtain rfl : fn = Tryz.f7 := (Option.some.inj (Tryz.func7.symm.trans hfn)).symm
  refine ⟨by kernel_rfl, fun j t ht => ?_⟩
  rw [Tryz.params7] at ht
  have hm := Array.mem_of_getElem? ht
  obtain rfl : t = 25 := by simpa using hm
  exact (show Tryz.prog.wantsStandIn 25 = false by kernel_rfl)
theorem card : Rows.CodeLiftsCardSaid :=
  Claim7.holds_tied_plain_at .later [] _ _ _ _ said (fun _ h => by cases h) (by kernel_rfl) (fun _ h => by cases h) codeLifts_row_tie rfl ⟨rfl, rfl⟩ (by kernel_rfl) rfl plain (by kernel_rfl)
end Go.Proofs.YtmfoiceofhcicaaGreatDoor.clifts
