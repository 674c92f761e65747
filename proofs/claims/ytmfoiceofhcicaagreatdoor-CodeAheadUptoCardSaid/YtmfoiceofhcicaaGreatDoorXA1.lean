/- Plain: the instructions of a message stand one behind the other, and lead ahead. No walk. Plain: where instructions that are read lead to: few places, each of four bytes. No walk. The statement that ranges over a function, where the iterator tells each round what memory it hands over. No program. Walks: code.Ops, and the function that it hands back. A map from numbers to truth values, in plain words. No walk. The ground of layer 20's rows: the library's variables off the row's list; a world for the witness. Parts and bytes that came in, opened. The law CodeAhead, walked. CodeAhead holds, in its second form: no instruction of a code leads back, each leads to one that stands there, and the end comes within the bound, for every parts of bounded bulk. The library's variables as the program's text lays them, tied by the card. -/
import Derived.Test.YtmfoiceofhcicaaGreatDoorXKD
import Derived.Test.YtmfoiceofhcicaaGreatDoorBase
import Derived.RangeFuncNested
import Derived.RangeFuncBound
import Derived.RangeFuncCalls
import Derived.RangeFuncLeaves
import Derived.Shelf.Abstract
import Derived.Shelf.RegionOpen
import Derived.WalkKit
import Derived.OwnWalkIn
import Derived.TacticsInMore
import Derived.LoopNIn
import Derived.LoopIn
import Derived.Maps.OwnIn
import Derived.Test.YtmfoiceofhcicaaGreatDoorCards
import Derived.Test.YtmfoiceofhcicaaGreatDoorTie
import Derived.Test.YtmfoiceofhcicaaGreatDoorEV
import Derived.ProofKit
import Derived.OpenShut
import Derived.Deep.Slices
import Derived.Deep.DeepHandedRow
import Derived.Lib.LaidU8
import Derived.PinnedBridge
import Derived.SizedLaws
import Derived.Lib.SmallJoins
import Derived.Lib.LaidIn
import Derived.Lib.TrailingZeros
import Derived.Test.YtmfoiceofhcicaaGreatDoorPB
import Derived.Test.YtmfoiceofhcicaaGreatDoorKF
import Derived.Deep.DeepWitnessRowRef
namespace Go.Proofs.YtmfoiceofhcicaaGreatDoor

/-- Instructions one behind the other, from a place to a place. -/
def Chn : Nat → List OT → Nat → Prop
  | a, [], z => a = z
  | a, o :: r, z => o.at_ = a ∧ a < o.nx ∧ Chn o.nx r z
theorem Chn.append : ∀ {X Y : List OT} {a m z : Nat}, Chn a X m → Chn m Y z → Chn a (X ++ Y) z
  | [], _, _, _, _, h, h2 => by
    have e := (show _ = _ from h)
    subst e
    exact h2
  | _ :: _, _, _, _, _, h, h2 => ⟨h.1, h.2.1, Chn.append h.2.2 h2⟩
theorem Chn.le : ∀ {X : List OT} {a z : Nat}, Chn a X z → a ≤ z
  | [], _, _, h => Nat.le_of_eq h
  | _ :: _, _, _, h => by have := Chn.le h.2.2; have := h.2.1; omega
theorem Chn.at_lt : ∀ {X : List OT} {a z : Nat}, Chn a X z → ∀ o ∈ X, a ≤ o.at_ ∧ o.at_ < z ∧ o.at_ < o.nx
  | [], _, _, _, o, ho => by simp at ho
  | x :: X, a, z, h, o, ho => by
    obtain ⟨h1, h2, h3⟩ := h
    have h4 := Chn.le h3
    rcases List.mem_cons.1 ho with rfl | ho
    · omega
    · have := Chn.at_lt h3 o ho; omega
/-- What leads on: instructions of parts. -/
structure Fwd (a z : Nat) (ops : List OT) : Prop where
  chn : Chn a ops z
  ne : ∀ o ∈ ops, o.k ≠ 0
  ts : ∀ o ∈ ops, ∀ t ∈ o.ts, o.at_ < t ∧ (t = z ∨ ∃ x ∈ ops, x.at_ = t)
theorem Fwd.nil (a : Nat) : Fwd a a [] := ⟨rfl, by simp, by simp⟩
theorem Fwd.append {a m z : Nat} {X Y : List OT} (h1 : Fwd a m X) (h2 : Fwd m z Y) : Fwd a z (X ++ Y) :=
  ⟨h1.chn.append h2.chn, fun o ho => by
    rcases List.mem_append.1 ho with ho | ho
    · exact h1.ne o ho
    · exact h2.ne o ho, fun o ho t ht => by
    rcases List.mem_append.1 ho with ho | ho
    · obtain ⟨h3, h4⟩ := h1.ts o ho t ht
      refine ⟨h3, ?_⟩
      rcases h4 with rfl | ⟨x, hx, e⟩
      · cases Y with
        | nil => exact .inl h2.chn
        | cons y Y => exact .inr ⟨y, List.mem_append_right _ (List.mem_cons_self ..), h2.chn.1⟩
      · exact .inr ⟨x, List.mem_append_left _ hx, e⟩
    · obtain ⟨h3, h4⟩ := h2.ts o ho t ht
      refine ⟨h3, ?_⟩
      rcases h4 with rfl | ⟨x, hx, e⟩
      · exact .inl rfl
      · exact .inr ⟨x, List.mem_append_right _ hx, e⟩⟩
theorem Fwd.one {a z : Nat} {o : OT} (h1 : o.at_ = a) (h2 : o.nx = z) (h3 : a < z) (h4 : o.k ≠ 0) (h5 : o.ts = []) : Fwd a z [o] :=
  ⟨⟨h1, by omega, h2⟩, by simpa using h4, fun x hx t ht => by
    obtain rfl : x = o := by simpa using hx
    rw [h5] at ht
    simp at ht⟩
theorem body_fwd {O : Nat → List PT → List OT} {L : List PT → Nat} {z : Nat} : ∀ (cs : List CT) (a : Nat), (∀ c ∈ cs, ∀ a, Fwd a (a + L c.2) (O a c.2)) → a + lenC L cs ≤ z →
    Chn a (bodyO O L z a cs) (a + lenC L cs) ∧ (∀ o ∈ bodyO O L z a cs, o.k ≠ 0 ∧ ∀ t ∈ o.ts, o.at_ < t ∧ (t = z ∨ ∃ x ∈ bodyO O L z a cs, x.at_ = t)) ∧ ∀ t ∈ startC L a cs, a ≤ t ∧ ∃ x ∈ bodyO O L z a cs, x.at_ = t
  | [], a, _, _ => ⟨rfl, fun o ho => by simp [bodyO] at ho, fun t ht => by simp [startC] at ht⟩
  | c :: cs, a, hO, hz => by
    simp only [lenC] at hz ⊢
    obtain ⟨g1, g2, g3⟩ := body_fwd (O := O) (L := L) (z := z) cs (a + L c.2 + 5) (fun d hd => hO d (List.mem_cons_of_mem _ hd)) (by omega)
    have h0 := hO c (List.mem_cons_self ..) a
    generalize hJ : ({ opE with at_ := a + L c.2, nx := a + L c.2 + 5, k := 7, ts := [z] } : OT) = J
    have hb : bodyO O L z a (c :: cs) = O a c.2 ++ (J :: bodyO O L z (a + L c.2 + 5) cs) := by rw [← hJ]; rfl
    have j1 : J.at_ = a + L c.2 := by rw [← hJ]
    have j2 : J.nx = a + L c.2 + 5 := by rw [← hJ]
    have j3 : J.k = 7 := by rw [← hJ]
    have j4 : J.ts = [z] := by rw [← hJ]
    rw [hb]
    have hJm : J ∈ O a c.2 ++ (J :: bodyO O L z (a + L c.2 + 5) cs) := List.mem_append_right _ (List.mem_cons_self ..)
    have hR : ∀ x ∈ bodyO O L z (a + L c.2 + 5) cs, x ∈ O a c.2 ++ (J :: bodyO O L z (a + L c.2 + 5) cs) := fun x hx => List.mem_append_right _ (List.mem_cons_of_mem _ hx)
    refine ⟨h0.chn.append (show Chn (a + L c.2) (J :: bodyO O L z (a + L c.2 + 5) cs) (a + (L c.2 + 5 + lenC L cs)) from ⟨j1, by omega, by rw [j2, show a + (L c.2 + 5 + lenC L cs) = a + L c.2 + 5 + lenC L cs by omega]; exact g1⟩), fun o ho => ?_, fun t ht => ?_⟩
    · rcases List.mem_append.1 ho with ho | ho
      · refine ⟨h0.ne o ho, fun t ht => ?_⟩
        obtain ⟨h3, h4⟩ := h0.ts o ho t ht
        refine ⟨h3, .inr ?_⟩
        rcases h4 with rfl | ⟨x, hx, e⟩
        · exact ⟨J, hJm, j1⟩
        · exact ⟨x, List.mem_append_left _ hx, e⟩
      · rcases List.mem_cons.1 ho with rfl | ho
        · refine ⟨by omega, fun t ht => ?_⟩
          rw [j4] at ht
          obtain rfl : t = z := by simpa using ht
          exact ⟨by omega, .inl rfl⟩
        · obtain ⟨h3, h4⟩ := g2 o ho
          refine ⟨h3, fun t ht => ?_⟩
          obtain ⟨h5, h6⟩ := h4 t ht
          refine ⟨h5, ?_⟩
          rcases h6 with rfl | ⟨x, hx, e⟩
          · exact .inl rfl
          · exact .inr ⟨x, hR x hx, e⟩
    · rcases List.mem_cons.1 (show t ∈ a :: startC L (a + L c.2 + 5) cs from ht) with rfl | ht
      · refine ⟨Nat.le_refl _, ?_⟩
        cases hX : O t c.2 with
        | nil =>
          have hc := h0.chn
          rw [hX] at hc
          exact ⟨J, List.mem_append_right _ (List.mem_cons_self ..), by rw [j1]; exact (show _ = _ from hc).symm⟩
        | cons x X =>
          have hc := h0.chn
          rw [hX] at hc
          exact ⟨x, List.mem_append_left _ (List.mem_cons_self ..), hc.1⟩
      · obtain ⟨h5, x, hx, e⟩ := g3 t ht
        exact ⟨by omega, x, hR x hx, e⟩
theorem opP_fwd {O : InP → Nat → List PT → List OT} {L : List PT → Nat} (q : InP) (a : Nat) (p : PT) (hk : p.k = 1 ∨ p.k = 2 ∨ p.k = 3 ∨ 4 ≤ p.k) (hO : ∀ c ∈ p.cs, ∀ q a, Fwd a (a + L c.2) (O q a c.2)) : Fwd a (a + lenP L p) (opP O L q a p) := by
  unfold opP
  by_cases h1 : p.k = 1
  · rw [if_pos h1]
    have : lenP L p = 3 := by unfold lenP; rw [if_pos h1]
    rw [this]
    exact Fwd.one rfl rfl (by omega) (by simp) rfl
  · rw [if_neg h1]
    by_cases h2 : p.k = 2
    · rw [if_pos h2]
      have : lenP L p = 7 := by unfold lenP; rw [if_neg h1, if_pos h2]
      rw [this]
      exact Fwd.one rfl rfl (by omega) (by simp) rfl
    · rw [if_neg h2]
      by_cases h3 : p.k = 3
      · rw [if_pos h3]
        have : lenP L p = 7 := by unfold lenP; rw [if_neg h1, if_neg h2, if_pos h3]
        rw [this]
        exact Fwd.one rfl rfl (by omega) (by simp) rfl
      · rw [if_neg h3]
        have hl : lenP L p = 9 + 6 * p.cs.length + lenC L p.cs := by unfold lenP; rw [if_neg h1, if_neg h2, if_neg h3]
        obtain ⟨g1, g2, g3⟩ := body_fwd (O := O (inQ q p)) (L := L) (z := a + lenP L p) p.cs (a + 9 + 6 * p.cs.length) (fun c hc a => hO c hc _ a) (by omega)
        generalize bodyO (O (inQ q p)) L (a + lenP L p) (a + 9 + 6 * p.cs.length) p.cs = R at *
        refine ⟨⟨rfl, by simp only; omega, ?_⟩, fun o ho => ?_, fun o ho t ht => ?_⟩
        · rw [hl, show a + (9 + 6 * p.cs.length + lenC L p.cs) = a + 9 + 6 * p.cs.length + lenC L p.cs by omega]
          exact g1
        · rcases List.mem_cons.1 ho with rfl | ho
          · simp only; omega
          · exact (g2 o ho).1
        · rcases List.mem_cons.1 ho with rfl | ho
          · obtain ⟨h5, x, hx, e⟩ := g3 t ht
            exact ⟨by simp only; omega, .inr ⟨x, List.mem_cons_of_mem _ hx, e⟩⟩
          · obtain ⟨h5, h6⟩ := (g2 o ho).2 t ht
            refine ⟨h5, ?_⟩
            rcases h6 with rfl | ⟨x, hx, e⟩
            · exact .inl rfl
            · exact .inr ⟨x, List.mem_cons_of_mem _ hx, e⟩
theorem opL_fwd {O : InP → Nat → List PT → List OT} {L : List PT → Nat} (q : InP) : ∀ (l : List PT) (a : Nat), (∀ p ∈ l, (p.k = 1 ∨ p.k = 2 ∨ p.k = 3 ∨ 4 ≤ p.k) ∧ ∀ c ∈ p.cs, ∀ q a, Fwd a (a + L c.2) (O q a c.2)) → Fwd a (a + lenL L l) (opL O L q a l)
  | [], a, _ => Fwd.nil a
  | p :: l, a, h => by
    obtain ⟨h1, h2⟩ := h p (List.mem_cons_self ..)
    have h3 := opL_fwd q l (a + lenP L p) fun x hx => h x (List.mem_cons_of_mem _ hx)
    simp only [opL, lenL]
    rw [← Nat.add_assoc]
    exact (opP_fwd q a p h1 h2).append h3
theorem plain_k4 {p : PT} {h : Bool} (hp : plainB p h = true) : p.k = 1 ∨ p.k = 2 ∨ p.k = 3 ∨ 4 ≤ p.k := by
  unfold plainB at hp
  by_cases h1 : p.k = 1
  · exact .inl h1
  · rw [if_neg h1] at hp
    by_cases h2 : p.k = 2
    · exact .inr (.inl h2)
    · rw [if_neg h2] at hp
      by_cases h3 : p.k = 3
      · exact .inr (.inr (.inl h3))
      · rw [if_neg h3] at hp
        by_cases h4 : p.k = 4 ∨ p.k = 5 ∨ p.k = 6
        · omega
        · rw [if_neg h4] at hp
          cases hp
theorem opF_fwd : ∀ (n : Nat) (l : List PT) (h : Bool) (q : InP) (a : Nat), rightF n l h = true → Fwd a (a + lenF n l) (opF n q a l)
  | 0, _, _, _, _, h => by cases h
  | n + 1, l, h, q, a, hr => opL_fwd q l a fun p hp => by
    obtain ⟨h1, h2⟩ := rightL_mem hr hp
    exact ⟨plain_k4 h1, fun c hc q a => opF_fwd n c.2 _ q a (caseR_mem h2 hc)⟩
/-! ### how many are gone through -/
theorem far_len (ops : List OT) : ∀ (i : Nat) (A : List Nat), (farF ops i A).length = A.length
  | 0, _ => rfl
  | i + 1, A => by
    unfold farF
    cases ops[i]? with
    | none => rfl
    | some o => simp only [far_len ops i, List.length_set]
theorem far_le (ops : List OT) (N : Nat) : ∀ (i : Nat) (A : List Nat), i ≤ ops.length → N = ops.length → (∀ x ∈ A, x ≤ N - i) → ∀ x ∈ farF ops i A, x ≤ N
  | 0, A, _, _, h => fun x hx => by have := h x hx; omega
  | i + 1, A, hi, hN, h => by
    unfold farF
    rw [List.getElem?_eq_getElem (by omega)]
    refine far_le ops N i _ (by omega) hN (set_le (fun y hy => by have := h y hy; omega) ?_)
    have := most_le (A := A) (ops := ops) (n := N - (i + 1)) h i ops[i]
    omega
theorem far_pos (ops : List OT) : ∀ (i : Nat) (A : List Nat), 0 < i → i ≤ ops.length → i ≤ A.length → 0 < (farF ops i A).getD 0 0
  | 0, _, h, _, _ => absurd h (by omega)
  | 1, A, _, h1, h2 => by
    unfold farF
    rw [List.getElem?_eq_getElem (show 0 < ops.length by omega)]
    unfold farF
    cases A with
    | nil => simp at h2
    | cons x A => simp
  | i + 2, A, _, h1, h2 => by
    unfold farF
    rw [List.getElem?_eq_getElem (by omega)]
    exact far_pos ops (i + 1) _ (by omega) (by omega) (by simp; omega)
theorem bound_fine {ops : List OT} (h : 0 < ops.length) : 1 ≤ boundF ops ∧ boundF ops ≤ ops.length := by
  unfold boundF
  refine ⟨far_pos ops _ _ h (Nat.le_refl _) (by simp), ?_⟩
  exact getD_le (far_le ops ops.length ops.length _ (Nat.le_refl _) rfl (fun x hx => by simp at hx; omega)) 0
end Go.Proofs.YtmfoiceofhcicaaGreatDoor

namespace Go.Proofs.YtmfoiceofhcicaaGreatDoor

def OkT (o : OT) : Prop := o.ts.length ≤ 65535 ∧ ∀ t ∈ o.ts, t < 4294967296
theorem numR32 (b : List UInt8) (r : Rd) : (numR b 4 r).1 < 4294967296 := by
  show leN (takeR b 4 r).1 < 4294967296
  rw [← numU_le]
  exact Nat.lt_of_lt_of_le (numU_lt _) (Nat.pow_le_pow_right (n := 256) (by omega) (takeR_len b 4 r))
theorem keyR_ts (b : List UInt8) (P : List ByteArray) : ∀ (n : Nat) (ks : List ByteArray) (ts : List Nat) (g : Bool) (r : Rd), (∀ t ∈ ts, t < 4294967296) → (keyR b P n ks ts g r).2.1.length ≤ ts.length + n ∧ ∀ t ∈ (keyR b P n ks ts g r).2.1, t < 4294967296
  | 0, ks, ts, g, r, h => by
    simp only [keyR]
    exact ⟨by omega, h⟩
  | n + 1, ks, ts, g, r, h => by
    unfold keyR
    split
    · exact ⟨by simp only; omega, h⟩
    · have := keyR_ts b P n (ks ++ [(txR b P false r).1]) (ts ++ [(numR b 4 (txR b P false r).2.2).1]) (g && (txR b P false r).2.1) (numR b 4 (txR b P false r).2.2).2 (fun t ht => by
        rcases List.mem_append.1 ht with ht | ht
        · exact h t ht
        · rw [List.mem_singleton] at ht
          rw [ht]
          exact numR32 b _)
      rw [List.length_append, List.length_singleton] at this
      exact ⟨by omega, this.2⟩
theorem opR_ts {b : List UInt8} {P : List ByteArray} {z a k : Nat} {r : Rd} (h : (opR b P z a k r).2.1 = true) : OkT (opR b P z a k r).1 := by
  by_cases h0 : k = 0
  · subst h0; exact ⟨by simp [opR], by simp [opR]⟩
  by_cases h1 : k = 1
  · subst h1; exact ⟨by simp [opR], by simp [opR]⟩
  by_cases h2 : k = 2
  · subst h2; exact ⟨by simp [opR], by simp [opR]⟩
  by_cases h3 : k = 3
  · subst h3; exact ⟨by simp [opR], by simp [opR]⟩
  by_cases h4 : k = 4 ∨ k = 5 ∨ k = 6
  · have hn := numR16 b (numR b 4 (txR b P false r).2.2).2
    have hl := keyR_ts b P (numR b 2 (numR b 4 (txR b P false r).2.2).2).1 [] [] (txR b P false r).2.1 (numR b 2 (numR b 4 (txR b P false r).2.2).2).2 (by simp)
    unfold opR
    rw [if_neg h0, if_neg h1, if_neg h2, if_neg h3, if_pos h4]
    simp only [List.length_nil, Nat.zero_add] at hl
    exact ⟨Nat.le_trans hl.1 (by omega), hl.2⟩
  by_cases h7 : k = 7
  · subst h7
    refine ⟨by simp [opR], fun t ht => ?_⟩
    simp [opR] at ht
    rw [ht]
    exact numR32 b _
  · unfold opR at h
    rw [if_neg h0, if_neg h1, if_neg h2, if_neg h3, if_neg h4, if_neg h7] at h
    cases h
theorem opsR_ts (b : List UInt8) (P : List ByteArray) (z : Nat) : ∀ (F : Nat) (acc L : List OT) (p : Nat), opsR b P z F acc p = some L → (∀ o ∈ acc, OkT o) → ∀ o ∈ L, OkT o
  | 0, _, _, _, h, _ => by cases h
  | F + 1, acc, L, p, h, ha => by
    unfold opsR at h
    cases hb : b[p]? with
    | none =>
      rw [hb] at h
      simp only [Option.some.injEq] at h
      rw [← h]
      exact ha
    | some c =>
      rw [hb] at h
      simp only at h
      split at h
      · rename_i hc
        rw [Bool.and_eq_true] at hc
        refine opsR_ts b P z F _ L _ h fun o ho => ?_
        rcases List.mem_append.1 ho with ho | ho
        · exact ha o ho
        · rw [List.mem_singleton] at ho
          rw [ho]
          exact opR_ts hc.1
      · cases h
theorem listR_ts {b : List UInt8} {P : List ByteArray} {ops : List OT} (h : listR b = some (P, ops)) : ∀ o ∈ ops, o.ts.length ≤ 65535 ∧ ∀ t ∈ o.ts, t < 4294967296 := by
  unfold listR at h
  simp only at h
  split at h
  · cases h
  · split at h
    · cases h
    · rename_i o ho
      split at h
      · cases h
      · simp only [Option.some.injEq, Prod.mk.injEq] at h
        rw [← h.2]
        exact opsR_ts _ _ _ _ _ _ _ ho (by simp)
/-- A message's code: its instructions one behind the other; each leads ahead, to one that stands there; the end alone is an end. -/
theorem codeO_next (n : Nat) (l : List PT) : NextO (codeO n l) := fun i o ho hk _ => by
  unfold codeO at ho ⊢
  rcases Nat.lt_or_ge i (opF n q0 0 l).length with h | h
  · rw [List.length_append, List.length_singleton]; omega
  · rw [List.getElem?_append_right h] at ho
    cases hi : i - (opF n q0 0 l).length with
    | zero =>
      rw [hi] at ho
      simp only [List.getElem?_cons_zero, Option.some.injEq] at ho
      subst ho
      exact absurd rfl hk
    | succ j => rw [hi] at ho; simp at ho
theorem codeO_chn {n : Nat} {l : List PT} (hr : rightF n l false = true) : Chn 0 (codeO n l) (lenF n l + 1) := by
  have h := (opF_fwd n l false q0 0 hr).chn
  rw [Nat.zero_add] at h
  exact h.append ⟨rfl, by simp only; omega, rfl⟩
theorem codeO_ts {n : Nat} {l : List PT} (hr : rightF n l false = true) : ∀ o ∈ codeO n l, ∀ t ∈ o.ts, o.at_ < t ∧ t ≤ lenF n l ∧ ∃ x ∈ codeO n l, x.at_ = t := fun o ho t ht => by
  have h := opF_fwd n l false q0 0 hr
  rw [Nat.zero_add] at h
  unfold codeO at ho ⊢
  rcases List.mem_append.1 ho with ho | ho
  · obtain ⟨h1, h2⟩ := h.ts o ho t ht
    rcases h2 with rfl | ⟨x, hx, rfl⟩
    · exact ⟨h1, Nat.le_refl _, _, List.mem_append_right _ (List.mem_singleton_self _), rfl⟩
    · have := (h.chn.at_lt x hx).2.1
      exact ⟨h1, by omega, x, List.mem_append_left _ hx, rfl⟩
  · rw [List.mem_singleton] at ho
    subst ho
    exact absurd ht (by simp [opE])
theorem codeO_end {n : Nat} {l : List PT} (hr : rightF n l false = true) {i : Nat} {o : OT} (ho : (codeO n l)[i]? = some o) : (o.k = 0 ↔ i + 1 = (codeO n l).length) ∧ (o.k = 0 → o.at_ = lenF n l) := by
  have h := opF_fwd n l false q0 0 hr
  unfold codeO at ho ⊢
  rw [List.length_append, List.length_singleton]
  rcases Nat.lt_or_ge i (opF n q0 0 l).length with hlt | hge
  · rw [List.getElem?_append_left hlt] at ho
    have hne := h.ne o (List.mem_of_getElem? ho)
    exact ⟨⟨fun h0 => absurd h0 hne, fun h1 => by omega⟩, fun h0 => absurd h0 hne⟩
  · rw [List.getElem?_append_right hge] at ho
    cases hi : i - (opF n q0 0 l).length with
    | zero =>
      rw [hi] at ho
      simp only [List.getElem?_cons_zero, Option.some.injEq] at ho
      subst ho
      exact ⟨⟨fun _ => by omega, fun _ => rfl⟩, fun _ => rfl⟩
    | succ j => rw [hi] at ho; simp at ho
theorem Chn.len : ∀ {X : List OT} {a z : Nat}, Chn a X z → X.length + a ≤ z
  | [], _, _, h => by
    have e := (show _ = _ from h)
    simp only [List.length_nil]
    omega
  | _ :: _, _, _, h => by
    have h1 := Chn.len h.2.2
    have h2 := h.2.1
    simp only [List.length_cons]
    omega
end Go.Proofs.YtmfoiceofhcicaaGreatDoor

namespace Go.Proofs.YtmfoiceofhcicaaGreatDoor
open Go.RowKit

/-- What a round leaves as it lies: the record, the block of deferred calls, what the iterator has laid. -/
structure KeepB (b lo hi : Nat) (w w' : World) : Prop where
  size : w.heap.size ≤ w'.heap.size
  block : ∀ k, k < w.heap.size → (k = b ∨ k = b + 1 ∨ (lo ≤ k ∧ k < hi)) → w'.heap[k]? = w.heap[k]?
theorem KeepB.of {b lo hi : Nat} {bs : List Nat} {w w' : World} (h : Keep bs w w') (hb : ∀ x ∈ bs, x ≠ b ∧ x ≠ b + 1 ∧ (x < lo ∨ hi ≤ x)) : KeepB b lo hi w w' :=
  ⟨h.size, fun k hk ho => h.block k hk fun hc => by have := hb k hc; omega⟩
/-- What the iterator reads behind a round. -/
structure KeepI (lo hi : Nat) (w w' : World) : Prop where
  size : w.heap.size ≤ w'.heap.size
  block : ∀ k, k < w.heap.size → lo ≤ k → k < hi → w'.heap[k]? = w.heap[k]?
theorem KeepI.trans {lo hi : Nat} {a b c : World} (h : KeepI lo hi a b) (k : KeepI lo hi b c) : KeepI lo hi a c :=
  ⟨Nat.le_trans h.size k.size, fun i hi' h1 h2 => (k.block i (Nat.lt_of_lt_of_le hi' h.size) h1 h2).trans (h.block i hi' h1 h2)⟩
theorem KeepI.of {lo hi : Nat} {bs : List Nat} {w w' : World} (h : Keep bs w w') (hb : ∀ x ∈ bs, x < lo ∨ hi ≤ x) : KeepI lo hi w w' :=
  ⟨h.size, fun k hk h1 h2 => h.block k hk fun hc => by have := hb k hc; omega⟩
theorem keep_putObj (w : World) (l : Nat) (o : Obj) : Keep [l] w (w.putObj l o) :=
  ⟨rfl, rfl, rfl, by simp, fun k _ hn => World.putObj_heap_other (by simpa using hn)⟩
/-- An iterator's call, whatever its rounds keep. -/
def SeqG {α : Type} (F : Fence) (n : Nat) (P : Program) (g : Nat) (lb : Array Value) (encs : α → Array Value) (G : Nat → Nat → List α → α → World → Prop) (S : List α → Prop) (w : World) : Prop :=
  ∀ (l : Nat) (J Jx : Nat → Nat → List α → World → Prop) (W : World), Keep [] w W →
    (∀ lo hi pre A B, J lo hi pre A → Keep [] A B → J lo hi pre B) →
    (∀ lo hi pre A B, Jx lo hi pre A → Keep [] A B → Jx lo hi pre B) →
    (∀ W1, Keep [] W W1 → J W.heap.size W1.heap.size [] W1) →
    (∀ lo hi pre x W1, W.heap.size ≤ lo → J lo hi pre W1 → G lo hi pre x W1 → YieldAt F (n - 1) P l (encs x) W1 fun e W' =>
      (e = .returned (.bool true) ∧ J lo hi (pre ++ [x]) W' ∧ KeepI lo hi W1 W') ∨ (e = .returned (.bool false) ∧ Jx lo hi (pre ++ [x]) W')) →
    CallsIn F n P g (#[.func (.yield l) #[] #[]] ++ lb) W fun e W' => (∃ v, e = .returned v) ∧ ∃ lo hi, (∃ xs, S xs ∧ J lo hi xs W') ∨ (∃ pre, Jx lo hi pre W')
/-- How a round may be left. -/
def postG {α : Type} (b lo hi : Nat) (I : Nat → Nat → List α → World → Prop) (Ix : Code → Nat → Nat → List α → World → Prop) (xs : List α) (W : World) : Exit → Act → World → Prop
  | .normal, _, W' => KeepB b lo hi W W' ∧ I lo hi xs W'
  | .ret, _, W' => KeepB b lo hi W W' ∧ Ix .ret lo hi xs W'
  | .exit id, _, W' => KeepB b lo hi W W' ∧ Ix (.exit id) lo hi xs W'
  | .goto t, _, W' => KeepB b lo hi W W' ∧ Ix (.goto t) lo hi xs W'
  | .panic _, _, _ => False
  | .outgrown, _, _ => False
/-- The statement. -/
theorem wpIn_rangeG {F : Fence} {n : Nat} {P : Program} {α : Type} {g : Operand} {ps : Array Tmp} {assign body : Code} {Q : Exit → Act → World → Prop} {a : Act} {w : World}
    (hro : F.round = none) (h1 : 1 ≤ n) {gf : Nat} {lb : Array Value} (hg : a.eval g = .func (.func gf) #[] lb) (hFg : F.fn gf) (eg : ∀ args w, (callFunc gf args).run P w = .ok (.enter gf args) w)
    {encs : α → Array Value} {G : Nat → Nat → List α → α → World → Prop} {S : List α → Prop} (hseq : SeqG F (n - 1) P gf lb encs G S w) (hps : ∀ x, (encs x).size = ps.size)
    (I : Nat → Nat → List α → World → Prop) (Ix : Code → Nat → Nat → List α → World → Prop)
    (hI : ∀ lo hi pre A B, I lo hi pre A → Keep [w.heap.size + 1] A B → I lo hi pre B) (hIx : ∀ c lo hi pre A B, Ix c lo hi pre A → Keep [w.heap.size + 1] A B → Ix c lo hi pre B)
    (h0 : ∀ W, Keep [] w W → w.heap.size + 2 ≤ W.heap.size → I (w.heap.size + 2) W.heap.size [] W) (ax : α → World → Act) (wx : α → World → World) (hwx : ∀ x W, Keep [] W (wx x W))
    (hassign : ∀ (x : α) (W : World) (K : Act → World → Prop), K (ax x W) (wx x W) →
      assign.wpIn (F.inRound (w.heap.size + 1)) (n - 1 - 1) P (Exit.then K (fun _ _ _ => False)) { tmps := (ps.zip (encs x)).foldl (fun t (p, v) => t.setIfInBounds p v) a.tmps, defers := [] } W)
    (hbody : ∀ (lo hi : Nat) (pre : List α) (x : α) (W W' : World), w.heap.size + 2 ≤ lo → w.heap.size + 2 ≤ W.heap.size → I lo hi pre W → G lo hi pre x W → Keep [w.heap.size + 1] (wx x W) W' →
      body.wpIn (F.inRound (w.heap.size + 1)) (n - 1 - 1) P (postG w.heap.size lo hi I Ix (pre ++ [x]) W') (ax x W) W')
    (hdone : ∀ (lo hi : Nat) (xs : List α) (W : World), S xs → I lo hi xs W → W.heap[w.heap.size]? = some (.deferred (some [])) → Q .normal { a with defers := { target := .collected w.heap.size, args := #[] } :: a.defers } W)
    (hstop : ∀ (c : Code) (lo hi : Nat) (pre : List α) (W : World), Ix c lo hi pre W → W.heap[w.heap.size]? = some (.deferred (some [])) → c.wpIn F n P Q { a with defers := { target := .collected w.heap.size, args := #[] } :: a.defers } W) :
    (Code.rangeFunc g ps assign body).wpIn F n P Q a w := by
  refine wpIn_rangeFunc ?_
  intro fn hfn
  rw [hro]
  obtain ⟨rc, hrc⟩ : ∃ rc : LoopState → Option Code → Loop, rc = fun st pe => { state := st, pending := pe, fn, tmps := a.tmps, params := ps, assign, body, defers := w.heap.size } := ⟨_, rfl⟩
  obtain ⟨b, hb⟩ : ∃ b, w.heap.size = b := ⟨_, rfl⟩
  obtain ⟨W1, hW1⟩ : ∃ W1, (w.alloc (.deferred (some []))).alloc (.loop (rc .ready none)) = W1 := ⟨_, rfl⟩
  have hL1 : W1.heap[b + 1]? = some (.loop (rc .ready none)) := by
    have := World.alloc_heap_new (w.alloc (.deferred (some []))) (.loop (rc .ready none))
    rw [World.size_alloc, hb, hW1] at this
    exact this
  have hD1 : W1.heap[b]? = some (.deferred (some [])) := by
    rw [← hW1, ← hb]; exact (Below.heap_alloc _ _ _ (by simp)).trans (World.alloc_heap_new w _)
  have hK1 : Keep [] w W1 := by rw [← hW1]; exact ((Keep.refl [] w).alloc _).alloc _
  have hZ1 : W1.heap.size = b + 2 := by rw [← hW1, World.size_alloc, World.size_alloc, hb]
  refine ⟨b + 1, [{ target := .collected b, args := #[] }], W1, { target := .fn (.func gf) lb, args := #[.func (.yield (b + 1)) #[] #[]] }, W1, gf,
    #[.func (.yield (b + 1)) #[] #[]] ++ lb, W1, ?_, ?_, ?_, ?_, fun _ => h1, ?_⟩
  · rw [← hW1, hrc, ← hb]; exact run_enterLoop_outer _ _ _ _ _
  · simp only [resolve, hg]
    simp [go_sem]
  · intro f' hf'; simp [Target.leads] at hf'; subst hf'; exact hFg
  · simp [invoke, go_sem, eg]
  rw [hb] at hI hIx h0 hassign hbody hdone hstop
  have up : ∀ {st pe} {A B : World}, A.heap[b + 1]? = some (.loop (rc st pe)) ∧ A.heap[b]? = some (.deferred (some [])) → Keep [] A B → B.heap[b + 1]? = some (.loop (rc st pe)) ∧ B.heap[b]? = some (.deferred (some [])) := fun {st pe A B} h k =>
    ⟨(k.block _ (Array.getElem?_eq_some_iff.1 h.1).1 (by simp)).trans h.1, (k.block _ (Array.getElem?_eq_some_iff.1 h.2).1 (by simp)).trans h.2⟩
  have k1 : ∀ {A B : World}, Keep [] A B → Keep [b + 1] A B := fun h => h.mono (by simp)
  refine (hseq (b + 1)
    (fun lo hi pre W => I lo hi pre W ∧ W.heap[b + 1]? = some (.loop (rc .ready none)) ∧ W.heap[b]? = some (.deferred (some [])))
    (fun lo hi pre W => ∃ c, Ix c lo hi pre W ∧ W.heap[b + 1]? = some (.loop (rc .done (some c))) ∧ W.heap[b]? = some (.deferred (some [])))
    W1 hK1 (fun lo hi pre A B h k => ⟨hI _ _ _ _ _ h.1 (k1 k), up h.2 k⟩) (fun lo hi pre A B h k => by
      obtain ⟨c, h, h2⟩ := h
      exact ⟨c, hIx _ _ _ _ _ _ h (k1 k), up h2 k⟩)
    (fun W hW => ⟨by have hz := hW.size; rw [hZ1] at hz ⊢; exact h0 W (hK1.nil hW) hz, up ⟨hL1, hD1⟩ hW⟩) ?_).mono ?_
  · rintro lo hi pre x W hlo ⟨hi', hl, hd⟩ hg'
    rw [hZ1] at hlo
    have hlt : b + 1 < W.heap.size := (Array.getElem?_eq_some_iff.1 hl).1
    have hy := run_yield (P := P) (args := encs x) hl (by rw [hrc]; exact hps x)
    rw [hrc] at hy
    have hkx := hwx x W
    have hzx := hkx.size
    obtain ⟨hlx, hdx⟩ := up ⟨hl, hd⟩ hkx
    refine ⟨fn, _, assign, body, hy, roundIn_of_wpIn hfn (hassign x W _ ⟨_, run_beginRound hlx (by rw [hrc]), ?_⟩)⟩
    have hp := keep_putObj (wx x W) (b + 1) (.loop { rc .ready none with state := .busy })
    have hl2 : ((wx x W).putObj (b + 1) (.loop { rc .ready none with state := .busy })).heap[b + 1]? = some (.loop { rc .ready none with state := .busy }) := World.putObj_heap_same (by omega)
    have hd2 : ((wx x W).putObj (b + 1) (.loop { rc .ready none with state := .busy })).heap[b]? = some (.deferred (some [])) := (World.putObj_heap_other (by omega)).trans hdx
    refine wpIn_mono (hbody lo hi pre x W _ hlo (by omega) hi' hg' hp) ?_
    generalize (wx x W).putObj (b + 1) (.loop { rc .ready none with state := .busy }) = W2 at *
    have hz2 : (wx x W).heap.size ≤ W2.heap.size := hp.size
    have fin : ∀ (jump : Option Code) (W3 : World), KeepB b lo hi W2 W3 →
        (Instr.endRound (b + 1) jump).run P W3 = .ok (.bool jump.isNone) (W3.putObj (b + 1) (.loop (rc (if jump.isNone then .ready else .done) jump))) ∧
        Keep [b + 1] W3 (W3.putObj (b + 1) (.loop (rc (if jump.isNone then .ready else .done) jump))) ∧
        (W3.putObj (b + 1) (.loop (rc (if jump.isNone then .ready else .done) jump))).heap[b + 1]? = some (.loop (rc (if jump.isNone then .ready else .done) jump)) ∧
        (W3.putObj (b + 1) (.loop (rc (if jump.isNone then .ready else .done) jump))).heap[b]? = some (.deferred (some [])) := fun jump W3 hk3 => by
      have hl3 := (hk3.block (b + 1) (by omega) (.inr (.inl rfl))).trans hl2
      have hd3 := (hk3.block b (by omega) (.inl rfl)).trans hd2
      have h9 := run_endRound (P := P) jump hl3
      have hlt3 := (Array.getElem?_eq_some_iff.1 hl3).1
      refine ⟨?_, keep_putObj _ _ _, World.putObj_heap_same hlt3, (World.putObj_heap_other (by omega)).trans hd3⟩
      rw [hrc] at h9 ⊢
      exact h9
    rintro e a3 W3 hpo
    cases e with
    | normal =>
      obtain ⟨hk3, hi3⟩ := hpo
      obtain ⟨hr, hk4, hl4, hd4⟩ := fin none W3 hk3
      exact ⟨_, _, hr, .inl ⟨rfl, ⟨hI _ _ _ _ _ hi3 hk4, hl4, hd4⟩, (((KeepI.of hkx (fun x hx => by simp at hx)).trans (KeepI.of hp (fun x hx => .inl (by simp at hx; omega)))).trans ⟨hk3.size, fun k h1 h2 h3 => hk3.block k h1 (.inr (.inr ⟨h2, h3⟩))⟩).trans (KeepI.of hk4 (fun x hx => .inl (by simp at hx; omega)))⟩⟩
    | ret =>
      obtain ⟨hk3, hi3⟩ := hpo
      obtain ⟨hr, hk4, hl4, hd4⟩ := fin (some .ret) W3 hk3
      exact ⟨_, _, hr, .inr ⟨rfl, .ret, hIx _ _ _ _ _ _ hi3 hk4, hl4, hd4⟩⟩
    | exit id =>
      obtain ⟨hk3, hi3⟩ := hpo
      obtain ⟨hr, hk4, hl4, hd4⟩ := fin (some (.exit id)) W3 hk3
      exact ⟨_, _, hr, .inr ⟨rfl, .exit id, hIx _ _ _ _ _ _ hi3 hk4, hl4, hd4⟩⟩
    | goto t =>
      obtain ⟨hk3, hi3⟩ := hpo
      obtain ⟨hr, hk4, hl4, hd4⟩ := fin (some (.goto t)) W3 hk3
      exact ⟨_, _, hr, .inr ⟨rfl, .goto t, hIx _ _ _ _ _ _ hi3 hk4, hl4, hd4⟩⟩
    | panic ch => exact hpo.elim
    | outgrown => exact hpo.elim
  · rintro e W2 ⟨⟨v, rfl⟩, lo, hi, ⟨xs, hS, hi2, hl, hd⟩ | ⟨pre, c, hi2, hl, hd⟩⟩
    · have h9 := run_endLoop (P := P) hl (by rw [hrc]; simp)
      rw [hrc] at h9
      exact ⟨none, _, h9, hdone _ _ xs _ hS (hI _ _ _ _ _ hi2 (keep_putObj _ _ _)) ((World.putObj_heap_other (by omega)).trans hd)⟩
    · have h9 := run_endLoop (P := P) hl (by rw [hrc]; simp)
      rw [hrc] at h9
      exact ⟨some c, _, h9, hstop c _ _ pre _ (hIx _ _ _ _ _ _ hi2 (keep_putObj _ _ _)) ((World.putObj_heap_other (by omega)).trans hd)⟩
end Go.Proofs.YtmfoiceofhcicaaGreatDoor

namespace Go.Proofs.YtmfoiceofhcicaaGreatDoor
open Go.RowKit Go.IntWalk Go.Shelf
attribute [local go_sem] Oper.semAt_some

/-- An instruction with the slice values of its keys and targets; how it is handed over; what is known of those slices. -/
abbrev OE := OT × (Option Addr × Nat) × (Option Addr × Nat)
def OE.kv (x : OE) : Value := .slice x.2.1.1 x.1.ks.length x.2.1.2
def OE.tv (x : OE) : Value := .slice x.2.2.1 x.1.ts.length x.2.2.2
def encO (x : OE) : Array Value := #[.agg (x.1.cells (x.kv, x.tv)).toArray]
def GO (lo hi : Nat) (x : OE) (w : World) : Prop :=
  RdC (fun y => lo ≤ y ∧ y < hi) w x.kv x.1.ks.length (x.1.ks.map Value.string) ∧ RdC (fun y => lo ≤ y ∧ y < hi) w x.tv x.1.ts.length (x.1.ts.map cellN)
theorem RdC.keepI {lo hi : Nat} {w w' : World} {v : Value} {n : Nat} {xs : List Value} (h : RdC (fun y => lo ≤ y ∧ y < hi) w v n xs) (hk : KeepI lo hi w w') : RdC (fun y => lo ≤ y ∧ y < hi) w' v n xs := by
  obtain ⟨A, cap, rfl, h1, h2, h3⟩ := h
  refine ⟨A, cap, rfl, h1, h2, fun hn => ?_⟩
  obtain ⟨b, o, rfl, hS, hlt, hc⟩ := h3 hn
  exact ⟨b, o, rfl, hS, Nat.lt_of_lt_of_le hlt hk.size, fun j u hu => (World.cell?_of_block (a := ⟨b, o + j, none⟩) (hk.block b hlt hS.1 hS.2)).trans (hc j u hu)⟩
/-- x is what comes behind pre. -/
def GN (ops : List OT) (lo hi : Nat) (pre : List OE) (x : OE) (w : World) : Prop := GO lo hi x w ∧ pre.map (·.1) = ops.take pre.length ∧ ops[pre.length]? = some x.1
theorem GO.keepI {lo hi : Nat} {x : OE} {w w' : World} (h : GO lo hi x w) (hk : KeepI lo hi w w') : GO lo hi x w' := ⟨h.1.keepI hk, h.2.keepI hk⟩
theorem OAt.keepI {lo hi : Nat} {w w' : World} {b o : Nat} {x : OT} {u : Value × Value} (h : OAt w b o x u) (hk : KeepI lo hi w w') (hb : b < w.heap.size) (h1 : lo ≤ b) (h2 : b < hi) : OAt w' b o x u :=
  fun j c hc => (World.cell?_of_block (a := ⟨b, o + j, none⟩) (hk.block b hb h1 h2)).trans (h j c hc)
theorem take_snoc {α : Type} {l : List α} {k : Nat} {x : α} (h : l[k]? = some x) : l.take (k + 1) = l.take k ++ [x] := by
  rw [List.take_add_one, h]; rfl
set_option maxRecDepth 100000 in
set_option maxHeartbeats 4000000 in
/-- The function that Ops hands back: all instructions of a code. -/
theorem ops1_seq (n : Nat) (w : World) (bb : Nat) (u : Value) (b : List UInt8) (hb : w.cell? ⟨bb, 0, none⟩ = some u) (hbb : bb < w.heap.size) (P : List ByteArray) (ops : List OT) (m : List PT) (hF : readF b = some (P, ops, m)) (hol : ops.length ≤ 1000000)
    (hread : ∀ W, Keep [] w W → Calls Tryz.prog 32 #[u] W (ReadO b W)) :
    SeqG Fence.wide n Tryz.prog 31 #[.pointer (some ⟨bb, 0, none⟩)] encO (GN ops) (fun xs => xs.map (·.1) = ops) w := by
  intro l J Jx W hW hJ hJx hJ0 hY
  have hbW : W.cell? ⟨bb, 0, none⟩ = some u := (hW.cell (p := ⟨bb, 0, none⟩) hbb (by simp)).trans hb
  have hRD := hread W hW
  unfold ReadO at hRD
  rw [hF] at hRD
  have HRD := Lib.hid hRD
  have HJ := Lib.hid hJ
  have HJ0 := Lib.hid hJ0
  have HY := Lib.hid hY
  clear hRD hread hJ hJx hJ0 hY hF
  refine callsIn_of_wp Tryz.func31 rfl trivial ?_ rfl
  simp only [Tryz.ntmps31, List.size_toArray, List.length_cons, List.length_nil, Nat.reduceAdd, Nat.reduceSub, Array.replicate_succ, Array.replicate_zero, List.push_toArray, List.append_toArray, List.nil_append, List.cons_append]
  gi_wp2_with (refine ⟨trivial, fun h => (by cases h), ?_⟩; gi_at_call 32; refine (callsIn_wide.2 HRD.out).mono ?_; rintro e w1 ⟨hk1, xb, uu, rfl, hLst, hu, -, -⟩; obtain ⟨UA, um, uc, rfl⟩ := hu.form; obtain ⟨pv, ov, mb, hX, hP, hO, hM⟩ := hLst; obtain ⟨OA, oc, rfl⟩ := hO.form; have x1 : w1.cell? ⟨xb, 1, none⟩ = some (.slice OA ops.length oc) := hX.cell_eq rfl; have HO := Lib.hid hO; have HK1 := Lib.hid hk1; clear hk1 hX hP hO hM hu)
  have hz1 := HK1.out.size
  gi_loopw [21] (fun i wr => ∃ (k : Nat) (pre : List OE), k ≤ ops.length ∧ i = .int .i64 k ∧ pre.map (·.1) = ops.take k ∧ J W.heap.size w1.heap.size pre wr ∧ KeepI W.heap.size w1.heap.size w1 wr) (fun i _ => ops.length - (intOf i).toNat)
  case atStart => exact ⟨0, [], Nat.zero_le _, rfl, rfl, HJ0.out w1 HK1.out, ⟨Nat.le_refl _, fun _ _ _ _ => rfl⟩⟩
  case round =>
    obtain ⟨k, pre, hk, rfl, hpre, hJr, hKI⟩ := hrel
    have HPRE := Lib.hid hpre
    clear hpre
    by_cases hlt : k < ops.length
    · obtain ⟨o, ho⟩ : ∃ o, ops[k]? = some o := ⟨_, List.getElem?_eq_getElem hlt⟩
      obtain ⟨b', oc', u', he, hBb, hbs, hAt, hks, hts⟩ := HO.out.at ho
      injection he with he1 _ he3
      subst he1; subst he3
      have hAt2 := hAt.keepI hKI hbs hBb hbs
      have c0 : wr.cell? ⟨b', k * 10, none⟩ = some (.int .i64 (o.at_ : Int)) := hAt2 0 _ rfl
      have c1 : wr.cell? ⟨b', k * 10 + 1, none⟩ = some (.int .i64 (o.nx : Int)) := hAt2 1 _ rfl
      have c2 : wr.cell? ⟨b', k * 10 + 2, none⟩ = some (.int .i64 (o.k : Int)) := hAt2 2 _ rfl
      have c3 : wr.cell? ⟨b', k * 10 + 3, none⟩ = some (.string o.tx) := hAt2 3 _ rfl
      have c4 : wr.cell? ⟨b', k * 10 + 4, none⟩ = some (.string o.nm) := hAt2 4 _ rfl
      have c5 : wr.cell? ⟨b', k * 10 + 5, none⟩ = some (.string o.ty) := hAt2 5 _ rfl
      have c6 : wr.cell? ⟨b', k * 10 + 6, none⟩ = some (.string o.st) := hAt2 6 _ rfl
      have c7 : wr.cell? ⟨b', k * 10 + 7, none⟩ = some (.int .i64 (o.off : Int)) := hAt2 7 _ rfl
      have c8 : wr.cell? ⟨b', k * 10 + 8, none⟩ = some u'.1 := hAt2 8 _ rfl
      have c9 : wr.cell? ⟨b', k * 10 + 9, none⟩ = some u'.2 := hAt2 9 _ rfl
      obtain ⟨u1, u2⟩ := u'
      obtain ⟨KA, kc, hku⟩ := hks.form
      obtain ⟨TA, tc, htu⟩ := hts.form
      simp only at hku htu c8 c9 hks hts
      subst hku; subst htu
      have hG : GO W.heap.size w1.heap.size (o, (KA, kc), (TA, tc)) w1 := ⟨RdC.of_own (by simp) hks hks.lt, RdC.of_own (by simp) hts hts.lt⟩
      have hka : Keep [] wr (wr.alloc (.cells #[.int .i64 (o.at_ : Int), .int .i64 (o.nx : Int), .int .i64 (o.k : Int), .string o.tx, .string o.nm, .string o.ty, .string o.st, .int .i64 (o.off : Int), .slice KA o.ks.length kc, .slice TA o.ts.length tc] 36)) := (Keep.refl _ _).alloc _
      have hKI2 := hKI.trans (KeepI.of hka (by simp))
      have hlen : pre.length = k := by
        have := congrArg List.length HPRE.out
        rw [List.length_map, List.length_take] at this
        omega
      obtain ⟨fn, tmps, assign, body, hy, hR⟩ := HY.out _ _ pre (o, (KA, kc), (TA, tc)) _ (Nat.le_refl _) (HJ.out _ _ _ _ _ hJr hka) ⟨hG.keepI hKI2, by rw [hlen]; exact HPRE.out, by rw [hlen]; exact ho⟩
      have HS := Lib.hid (take_snoc ho)
      have HKI2 := Lib.hid hKI2
      dsimp only [encO, OT.cells, OE.kv, OE.tv] at hy
      clear hAt hAt2 hks hts ho hG hka hKI2 hlen
      gi_wp2
      refine ⟨fun h => (by cases h), ?_⟩
      refine hR.mono ?_
      clear hy hR
      rintro e W3 (⟨rfl, hJ3, hk3⟩ | ⟨rfl, hJx3⟩)
      · gi_wp2
        go_roundw
        case rel => exact ⟨k + 1, pre ++ [(o, (KA, kc), (TA, tc))], by omega, by go_num, by rw [List.map_append, HPRE.out, HS.out]; rfl, hJ3, HKI2.out.trans hk3⟩
        case measure => simp [intOf]; omega
      · gi_wp2
        refine bodyPost_ret (results_none rfl _ _ _) rfl ?_
        exact ⟨⟨_, rfl⟩, _, _, .inr ⟨_, hJx3⟩⟩
    · obtain rfl : k = ops.length := by omega
      gi_wp2
      go_end0
      exact ⟨⟨_, rfl⟩, _, _, .inl ⟨_, by rw [HPRE.out, List.take_length], hJr⟩⟩
set_option maxRecDepth 100000 in
set_option maxHeartbeats 4000000 in
/-- The same, of bytes that are no code: nothing. -/
theorem ops1_none (n : Nat) (w : World) (bb : Nat) (u : Value) (b : List UInt8) (hb : w.cell? ⟨bb, 0, none⟩ = some u) (hbb : bb < w.heap.size) (hF : readF b = none)
    (hread : ∀ W, Keep [] w W → Calls Tryz.prog 32 #[u] W (ReadO b W)) :
    SeqG Fence.wide n Tryz.prog 31 #[.pointer (some ⟨bb, 0, none⟩)] encO (GN []) (fun xs => xs.map (·.1) = []) w := by
  intro l J Jx W hW hJ hJx hJ0 hY
  have hbW : W.cell? ⟨bb, 0, none⟩ = some u := (hW.cell (p := ⟨bb, 0, none⟩) hbb (by simp)).trans hb
  have hRD := hread W hW
  unfold ReadO at hRD
  rw [hF] at hRD
  have HRD := Lib.hid hRD
  have HJ0 := Lib.hid hJ0
  clear hRD hread hJ hJx hJ0 hY hF
  refine callsIn_of_wp Tryz.func31 rfl trivial ?_ rfl
  simp only [Tryz.ntmps31, List.size_toArray, List.length_cons, List.length_nil, Nat.reduceAdd, Nat.reduceSub, Array.replicate_succ, Array.replicate_zero, List.push_toArray, List.append_toArray, List.nil_append, List.cons_append]
  gi_wp2_with (refine ⟨trivial, fun h => (by cases h), ?_⟩; gi_at_call 32; refine (callsIn_wide.2 HRD.out).mono ?_; rintro e w1 ⟨hk1, rfl⟩; have HK1 := Lib.hid hk1; clear hk1)
  refine bodyPost_ret (results_none rfl _ _ _) rfl ?_
  exact ⟨⟨_, rfl⟩, _, _, .inl ⟨[], rfl, HJ0.out _ HK1.out⟩⟩
set_option maxRecDepth 100000 in
set_option maxHeartbeats 4000000 in
/-- Ops. -/
theorem cops_any (w : World) (v : Value) (b : List UInt8) (h : RdU w v b) (hl : b.length ≤ 1000000) :
    Calls Tryz.prog 12 #[v] w fun e w' => ∃ bb u, e = .returned (.func (.func 31) #[] #[.pointer (some ⟨bb, 0, none⟩)]) ∧ w'.cell? ⟨bb, 0, none⟩ = some u ∧ bb < w'.heap.size ∧ RdU w' u b ∧ Keep [] w w' := by
  have hka : Keep [] w (w.alloc (.cells #[v] 25)) := (Keep.refl _ _).alloc _
  have hX : Blk (w.alloc (.cells #[v] 25)) w.heap.size 25 #[v] := Blk.new _ _ _
  have hCL := cloneU_any _ v b (h.keep hka) (by omega)
  obtain ⟨A, c, rfl, -⟩ := h
  have HCL := Lib.hid hCL
  have HX := Lib.hid hX
  have HKA := Lib.hid hka
  clear hka hX hCL
  go_enter Tryz.func12, Tryz.ntmps12
  go_wp2_with (go_at_call 30; refine HCL.out.mono ?_; rintro e w2 ⟨u, rfl, ho, hk⟩; obtain ⟨UA, uc, rfl⟩ := ho.form; have hX2 := HX.out.keep hk (by simp); have f2 : w2.frozen? ⟨w.heap.size, 0, none⟩ = false := hX2.frozen 0; have x2 : w2.cell? ⟨w.heap.size, 0, none⟩ = some (.slice A b.length c) := hX2.cell_eq rfl; have HX2 := Lib.hid hX2; have HO := Lib.hid ho; have HK := Lib.hid hk; clear hX2 ho hk)
  go_ret
  have hs : Keep [w.heap.size] w2 (w2.setCell ⟨w.heap.size, 0, none⟩ (.slice UA b.length uc)) := (Keep.refl _ _).setCell (.inl (by simp)) _
  have hX3 : Blk (w2.setCell ⟨w.heap.size, 0, none⟩ (.slice UA b.length uc)) w.heap.size 25 #[.slice UA b.length uc] := by simpa using Blk.set_ HX2.out 0 (.slice UA b.length uc)
  refine ⟨w.heap.size, _, rfl, hX3.cell_eq rfl, hX3.lt, (HO.out.keep hs (fun x hx hc => ?_)).reads, (HKA.out.nil HK.out).trans hs (fun x hx => .inr (by simp at hx; omega))⟩
  have := (HO.out.lt x hx).1
  simp at hc this
  omega
end Go.Proofs.YtmfoiceofhcicaaGreatDoor

namespace Go.Proofs.YtmfoiceofhcicaaGreatDoor
open Go.RowKit Go.Maps Go.WideMaps

/-- Block b is a map of at most n entries that reads as D. -/
def OwnMapB (w : World) (b n : Nat) (D : MapD) : Prop := w.ownsMap Tryz.prog 3 (plainElem Tryz.prog 4) b n D
def putB (D : MapD) (k : Nat) (x : Bool) : MapD := D.put (keyN k) (.lit (.bool x))
def valB (D : MapD) (k : Nat) : DataW Unit := D.atKey (keyN k) (.lit (.bool false))
theorem isMap_putB {D : MapD} (h : IsMap D) (a : Nat) (x : Bool) : IsMap (putB D a x) := IsMap.put h _ _
theorem valB_put {D : MapD} (h : IsMap D) (a t : Nat) (x : Bool) : valB (putB D a x) t = if a = t then .lit (.bool x) else valB D t := by
  split
  · rename_i e
    subst e
    exact atKey_put_same h (by trivial) _ _
  · rename_i e
    exact atKey_put_other (fun h => e (keyN_inj h).symm) _ _
theorem zero_b (w : World) : (zeroValue 4).run Tryz.prog w = .ok (.bool false) w := by kernel_rfl
theorem elem_b' {P : Program} {t : TypeId} (ht : P.underlying t = some .bool) {v : Value} {x : Bool} {ps : List MemPlace} (h : plainElem (H := Unit) P t v = some (.lit (.bool x), ps)) : v = .bool x := by
  unfold plainElem at h
  rw [ht] at h
  cases v with
  | bool y => injection h with h; injection h with h _; injection h with h; injection h with h; rw [h]
  | _ => cases h
theorem elem_b {v : Value} {x : Bool} {ps : List MemPlace} (h : plainElem (H := Unit) Tryz.prog 4 v = some (.lit (.bool x), ps)) : v = .bool x := elem_b' Tryz.underlying4 h
section
variable {w w' : World} {b n : Nat} {D : MapD} {bs : List Nat}
theorem OwnMapB.lt (h : OwnMapB w b n D) : b < w.heap.size := World.ownsMap.lt h
theorem OwnMapB.isMap (h : OwnMapB w b n D) : IsMap D := World.ownsMap.isMap h
theorem OwnMapB.keep (h : OwnMapB w b n D) (hk : Keep bs w w') (hb : b ∉ bs) : OwnMapB w' b n D := by
  have hl := World.ownsMap.lt h
  obtain ⟨es, clock, he, F, hs, hD⟩ := h
  exact ⟨es, clock, (hk.block b hl hb).trans he, F, hs, hD⟩
theorem OwnMapB.alloc (h : OwnMapB w b n D) (o : Obj) : OwnMapB (w.alloc o) b n D := World.ownsMap.alloc h o
theorem row_mapB {B e size m : Nat} {v : Value} {xs : List Value} (h : w.ownsRow B e size v m xs) (hm : OwnMapB w b n D) : b ∉ v.ownBlock.toList := fun hx => by
  obtain ⟨es, clock, he, _⟩ := hm
  rcases h.2 with ⟨rfl, _⟩ | ⟨g, cap, cur, rfl, _, hb, _⟩
  · simp [Value.ownBlock] at hx
  · simp [Value.ownBlock] at hx
    subst hx
    rw [he] at hb
    cases hb
/-- 'm[k] = x' at the operation, inside a fence. -/
theorem wpListIn_putB {F : Fence} {nF : Nat} {ops : Array Oper} {rest : List Oper} {o : Oper} {a : Act} {Q : Exit → Act → World → Prop} (hg : o.guard = none) (m x v : Operand) (hop : o.op = Op.mapUpdate 29 m x v)
    (hown : OwnMapB w b n D) (hm : a.eval m = .map (some b)) (k : Nat) (hx : a.eval x = .int .i64 (k : Int)) (z : Bool) (hv : a.eval v = .bool z) (hs : k ≤ 1000000000) (hn : n ≤ 1000000000)
    (hK : ∀ w', OwnMapB w' b (n + 1) (putB D k z) → Keep [b] w w' → wpListIn F nF Tryz.prog ops Q rest (a.put o.dst undef) w') : wpListIn F nF Tryz.prog ops Q (o :: rest) a w :=
  wpListIn_mapUpdate_own w hg m x v 29 hop 3 4 law_n Tryz.underlying29 _ b n D hm hown (by unfold maxLen; omega) _ _ _ hx hv (keyN_of hs) _ [] (plainElem_bool Tryz.underlying4 z)
    fun w' h1 h2 => hK w' h1 ((Keep.refl [b] w).grown h2 fun k hk => .inl (by cases hk; simp))
/-- 'm[k]' at the operation, inside a fence. -/
theorem wpListIn_getB {F : Fence} {nF : Nat} {ops : Array Oper} {rest : List Oper} {o : Oper} {a : Act} {Q : Exit → Act → World → Prop} (hg : o.guard = none) (m x : Operand) (hop : o.op = Op.lookup 29 m x false)
    (hown : OwnMapB w b n D) (hm : a.eval m = .map (some b)) (k : Nat) (hx : a.eval x = .int .i64 (k : Int)) (hs : k ≤ 1000000000000) (z : Bool) (hz : valB D k = .lit (.bool z))
    (hK : wpListIn F nF Tryz.prog ops Q rest (a.put o.dst (.bool z)) w) : wpListIn F nF Tryz.prog ops Q (o :: rest) a w := by
  refine wpListIn_plain hg fun K' hK' => ?_
  obtain ⟨v, ps, hrun, hv⟩ := World.ownsMap.lookup hown law_n Tryz.underlying29 (zero_b w) (plainElem_bool Tryz.underlying4 false) (keyOf_int_mk (q := .i64) (a := (k : Int)) Tryz.underlying3 (WalkArith.wf_i64 (by omega)))
  rw [show D.atKey (.int .i64 (k : Int)) (.lit (.bool false)) = .lit (.bool z) from hz] at hv
  obtain rfl := elem_b hv
  unfold Oper.wpIn
  refine ⟨by simp [Oper.about, hop], ?_⟩
  rw [Oper.semAt_plain F _ _ (by rw [hop]; intro c hc'; cases hc')]
  simp [execOp, hop, hm, hx, hrun, Result.andThen]
  exact hK' _ _ hK
end
/-- append of one number, inside a fence. -/
theorem wpListIn_append_n {w : World} {B : Nat} {v : Value} {ns : List Nat} {F : Fence} {nF : Nat} {ops : Array Oper} {rest : List Oper} {o : Oper} {a : Act} {Q : Exit → Act → World → Prop} (hgd : o.guard = none) (s x : Operand)
    (ho : o.op = .call { callee := .builtin .append, args := #[s, x], argTypes := #[30, 30] })
    (hs : a.eval s = v) (hown : OwnN w B v ns) (n : Nat) (hx : a.eval x = .slice (some ⟨w.heap.size, 0, none⟩) 1 1)
    (hlen : ns.length ≤ 1000000000) (hB : B ≤ w.heap.size)
    (h : ∀ v' w', OwnN w' B v' (ns ++ [n]) → Keep v.ownBlock.toList w w' → wpListIn F nF Tryz.prog ops Q rest (a.put o.dst v') w') : wpListIn F nF Tryz.prog ops Q (o :: rest) a (w.alloc (.cells #[.int .i64 (n : Int)] 3)) := by
  obtain ⟨i0, hi, hz0, hz1, hz2⟩ := info_parts infoN
  refine wpListIn_append_own _ hgd s x 30 ho B 3 i0 _ 1 8 Tryz.underlying30 hi hz0 hz1 hz2 rfl (by decide) v ns.length (ns.map cellN) hs (World.ownsRow.alloc hown _) ⟨w.heap.size, 0, none⟩ 1 1 [.int .i64 (n : Int)] hx (by simp) (new_cellsU w _ rfl [.int .i64 (n : Int)] _) ?_ (by unfold maxLen; omega) (by omega) (by simp; omega) ?_
  · intro u hu
    simp only [List.mem_cons, List.mem_nil_iff, or_false] at hu
    rw [hu]
    rfl
  · intro v' w' h1 h2 _
    refine h v' w' ?_ (((Keep.refl _ w).alloc _).grown h2 fun k hk => .inl (by simpa using hk))
    unfold OwnN
    rw [List.map_append, List.length_append, List.map_cons, List.map_nil]
    exact h1
/-! ### what holds between the rounds of CodeAhead -/
theorem KeepB.trans {b lo hi : Nat} {x y z : World} (h : KeepB b lo hi x y) (k : KeepB b lo hi y z) : KeepB b lo hi x z :=
  ⟨Nat.le_trans h.size k.size, fun i hi' ho => (k.block i (Nat.lt_of_lt_of_le hi' h.size) ho).trans (h.block i hi' ho)⟩
/-- k rounds are done. -/
structure AhI (w3 : World) (b6 z : Nat) (ops : List OT) (hi k : Nat) (W : World) : Prop where
  le : k ≤ ops.length
  cnt : Blk W w3.heap.size 3 #[.int .i64 (k : Int)]
  at_ : ∃ a : Nat, Blk W (w3.heap.size + 1) 3 #[.int .i64 (a : Int)] ∧ Chn a (ops.drop k) (z + 1)
  en : Blk W (w3.heap.size + 2) 3 #[.int .i64 (if k = ops.length then (z : Int) else -1)]
  st : Blk W (w3.heap.size + 4) 29 #[.map (some (w3.heap.size + 3))]
  mp : ∃ D, OwnMapB W (w3.heap.size + 3) k D ∧ ∀ o ∈ ops.take k, valB D o.at_ = .lit (.bool true)
  tg : ∃ tv, Blk W (w3.heap.size + 5) 30 #[tv] ∧ OwnN W hi tv ((ops.take k).flatMap (·.ts))
  ge : b6 + 2 ≤ hi
  far : w3.heap.size + 6 ≤ b6
  sz : hi ≤ W.heap.size
  kp : Keep [] w3 W
theorem AhI.keep {w3 A B : World} {b6 z hi k : Nat} {ops : List OT} {bs : List Nat} (h : AhI w3 b6 z ops hi k A) (hk : Keep bs A B) (hb : ∀ x ∈ bs, w3.heap.size + 6 ≤ x ∧ x < hi) : AhI w3 b6 z ops hi k B := by
  obtain ⟨a, ha, hc⟩ := h.at_
  obtain ⟨D, hm, hv⟩ := h.mp
  obtain ⟨tv, ht, ho⟩ := h.tg
  have hn : ∀ j, j < 6 → w3.heap.size + j ∉ bs := fun j hj hc => by have := (hb _ hc).1; omega
  exact ⟨h.le, h.cnt.keep hk (hn 0 (by omega)), ⟨a, ha.keep hk (hn 1 (by omega)), hc⟩, h.en.keep hk (hn 2 (by omega)), h.st.keep hk (hn 4 (by omega)), ⟨D, hm.keep hk (hn 3 (by omega)), hv⟩,
    ⟨tv, ht.keep hk (hn 5 (by omega)), ho.keep hk fun x hx hc => by have := (ho.lt x hx).1; have := (hb x hc).2; omega⟩, h.ge, h.far, Nat.le_trans h.sz hk.size, h.kp.trans hk fun x hx => .inr (by have := (hb x hx).1; omega)⟩
/-- What holds when the rounds begin. -/
theorem AhI.start {w3 w6 W : World} {z : Nat} {ops : List OT} (hne : 0 < ops.length) (hc : Chn 0 ops (z + 1)) (hfar : w3.heap.size + 6 ≤ w6.heap.size) (h3 : Keep [] w3 w6)
    (q0 : Blk w6 w3.heap.size 3 #[.int .i64 0]) (q1 : Blk w6 (w3.heap.size + 1) 3 #[.int .i64 0]) (q2 : Blk w6 (w3.heap.size + 2) 3 #[.int .i64 (-1)]) (q3 : OwnMapB w6 (w3.heap.size + 3) 0 (.map [])) (q4 : Blk w6 (w3.heap.size + 4) 29 #[.map (some (w3.heap.size + 3))]) (q5 : Blk w6 (w3.heap.size + 5) 30 #[.slice none 0 0])
    (hW : Keep [] w6 W) (hz : w6.heap.size + 2 ≤ W.heap.size) : AhI w3 w6.heap.size z ops W.heap.size 0 W :=
  ⟨Nat.zero_le _, q0.keep hW (by simp), ⟨0, q1.keep hW (by simp), hc⟩, by rw [if_neg (by omega)]; exact q2.keep hW (by simp), q4.keep hW (by simp), ⟨_, q3.keep hW (by simp), by simp⟩, ⟨_, q5.keep hW (by simp), OwnN.nil _ _⟩, hz, hfar, Nat.le_refl _, h3.nil hW⟩
theorem OwnMapB.made (w : World) (n : Nat) (hn : w.heap.size = n) : OwnMapB (w.alloc (.map #[] 0)) n 0 (.map []) := by
  subst hn
  exact World.ownsMap_made w _ _ _
/-- An instruction has room for the places that it leads to. -/
theorem startC_len (L : List PT → Nat) : ∀ (cs : List CT) (a : Nat), (startC L a cs).length = cs.length
  | [], _ => rfl
  | c :: cs, a => by simp [startC, startC_len L cs]
theorem bodyO_wide {O : Nat → List PT → List OT} {L : List PT → Nat} {z : Nat} (hO : ∀ a l, ∀ o ∈ O a l, o.at_ + o.ts.length ≤ o.nx) : ∀ (cs : List CT) (a : Nat), ∀ o ∈ bodyO O L z a cs, o.at_ + o.ts.length ≤ o.nx
  | [], _, o, h => by simp [bodyO] at h
  | c :: cs, a, o, h => by
    simp only [bodyO, List.mem_append, List.mem_cons] at h
    rcases h with h | h | h
    · exact hO _ _ o h
    · subst h; simp
    · exact bodyO_wide hO cs _ o h
theorem opP_wide {O : InP → Nat → List PT → List OT} {L : List PT → Nat} (hO : ∀ q a l, ∀ o ∈ O q a l, o.at_ + o.ts.length ≤ o.nx) (q : InP) (a : Nat) (p : PT) : ∀ o ∈ opP O L q a p, o.at_ + o.ts.length ≤ o.nx := by
  intro o h
  unfold opP at h
  split at h
  · rw [List.mem_singleton] at h; subst h; simp [opE]
  · split at h
    · rw [List.mem_singleton] at h; subst h; simp [opE]
    · split at h
      · rw [List.mem_singleton] at h; subst h; simp [opE]
      · rcases List.mem_cons.1 h with h | h
        · subst h; simp only [startC_len]; omega
        · exact bodyO_wide (hO _) _ _ o h
theorem opL_wide {O : InP → Nat → List PT → List OT} {L : List PT → Nat} (hO : ∀ q a l, ∀ o ∈ O q a l, o.at_ + o.ts.length ≤ o.nx) (q : InP) : ∀ (l : List PT) (a : Nat), ∀ o ∈ opL O L q a l, o.at_ + o.ts.length ≤ o.nx
  | [], _, o, h => by simp [opL] at h
  | p :: l, a, o, h => by
    simp only [opL, List.mem_append] at h
    rcases h with h | h
    · exact opP_wide hO q a p o h
    · exact opL_wide hO q l _ o h
theorem opF_wide : ∀ (n : Nat) (q : InP) (a : Nat) (l : List PT), ∀ o ∈ opF n q a l, o.at_ + o.ts.length ≤ o.nx
  | 0, _, _, _, o, h => by simp [opF] at h
  | n + 1, q, a, l, o, h => opL_wide (opF_wide n) q l a o h
theorem codeO_wide {n : Nat} {l : List PT} : ∀ o ∈ codeO n l, o.at_ + o.ts.length ≤ o.nx := fun o h => by
  unfold codeO at h
  rcases List.mem_append.1 h with h | h
  · exact opF_wide _ _ _ _ o h
  · rw [List.mem_singleton] at h; subst h; simp [opE]
theorem chn_targets : ∀ {X : List OT} {a z : Nat}, Chn a X z → (∀ o ∈ X, o.at_ + o.ts.length ≤ o.nx) → (X.flatMap (·.ts)).length + a ≤ z
  | [], _, _, h, _ => Nat.le_of_eq (by rw [show _ = _ from h]; simp)
  | o :: X, a, z, h, hw => by
    have h1 := chn_targets h.2.2 fun x hx => hw x (List.mem_cons_of_mem _ hx)
    have h2 := hw o (List.mem_cons_self ..)
    have h3 := h.1
    rw [List.flatMap_cons, List.length_append]
    omega
end Go.Proofs.YtmfoiceofhcicaaGreatDoor

namespace Go.Proofs.YtmfoiceofhcicaaGreatDoor
open Go.ChangeShapes Go.WideShapes Go.ChangeAt Go.RowKit

theorem own : ownKnob Tryz.prog.godebug = none := by kernel_rfl
theorem laidOut : laidOutB Tryz.prog = true := by kernel_rfl
theorem acc_eq : (Rows.laid_unicode_utf8_acceptRanges : DataW Unit) = Lib.acceptData := by kernel_rfl
theorem first_eq : Rows.laid_unicode_utf8_first = Lib.firstData := Pinned.utf8First_eq
theorem pow_eq : (Rows.laid_internal_strconv_uint64pow10 : DataW Unit) = Lib.tabData .u64 Lib.pow10Tab := by kernel_rfl
theorem sp_eq : (Rows.laid_strings_asciiSpace : DataW Unit) = Lib.tabData .u8 Lib.asciiSpaceTab := by kernel_rfl
/-- What the six rows list. -/
abbrev laidL : List (String × DataW Unit) := Rows.codeThereUptoRow.laid
theorem tab_of_reads {P : Program} {W : World} {name : String} {k : IntKind} {zs : List Int} {g : Nat} {t e : TypeId} {n : Nat}
    (hg : P.globalNamed name = some g) (hty : (P.globals[g]?).map (·.type) = some t) (ht : P.underlying t = some (.array n e)) (he : P.underlying e = some (.int k)) (hce : P.cellsOf e = 1) (hct : P.cellsOf t = n)
    (h : Lib.VarReads P W name (Lib.tabData k zs)) : Lib.TabIs P W name k zs := by
  obtain ⟨g', t', cs, fuel, p, hg', ht', hvar, hd⟩ := h
  obtain rfl := Option.some.inj (hg.symm.trans hg')
  obtain rfl := Option.some.inj (hty.symm.trans ht')
  unfold Lib.TabIs
  rw [hvar, ← Lib.cells_of_tab ht he hce hct hd]
theorem ev_of_reads {P : Program} {W : World} {name nm : String} {d : DataW Unit} {g : Nat} {t : TypeId} {ms : Array (String × TypeId)}
    (hg : P.globalNamed name = some g) (hty : (P.globals[g]?).map (·.type) = some t) (ht : P.underlying t = some (.interface ms))
    (h : Lib.VarReads P W name (.iface nm d)) : ∃ ev, W.cell? ⟨g, 0, none⟩ = some ev ∧ (ev = .nilIface ∨ ∃ te pe, ev = .iface te pe) := by
  obtain ⟨g', t', cs, fuel, p, hg', ht', hvar, hd⟩ := h
  obtain rfl := Option.some.inj (hg.symm.trans hg')
  obtain rfl := Option.some.inj (hty.symm.trans ht')
  have hc := World.var?_cell hg hvar 0
  obtain ⟨l⟩ := cs
  cases fuel with
  | zero => simp [DataW.trod] at hd
  | succ fuel =>
    match l, hd, hc with
    | [], hd, _ => simp [DataW.trod, ht] at hd
    | [v], hd, hc =>
      cases v <;> first | (simp [DataW.trod, ht] at hd; done) | exact ⟨_, by simpa using hc, .inr ⟨_, _, rfl⟩⟩ | exact ⟨_, by simpa using hc, .inl rfl⟩
    | a :: b :: r, hd, _ => simp [DataW.trod, ht] at hd
/-- What the row's list gives: the tables and variables of the library; the ground of the calls. -/
theorem env_m {W : World} (h : laidMetH Tryz.prog laidL W) (hsh : W.ShapedOpen Tryz.prog) : EnvM W.heap.size W := by
  have hL : laidMet Tryz.prog laidL W := h
  have r0 := Lib.laidMet.reads hL (n := "internal/strconv.uint64pow10") (.tail _ (.tail _ (.head _)))
  have r1 := Lib.laidMet.reads hL (n := "unicode/utf8.acceptRanges") (.tail _ (.tail _ (.tail _ (.head _))))
  have r2 := Lib.laidMet.reads hL (n := "strconv.ErrRange") (.tail _ (.tail _ (.tail _ (.tail _ (.head _)))))
  have r3 := Lib.laidMet.reads hL (n := "strconv.ErrSyntax") (.tail _ (.tail _ (.tail _ (.tail _ (.tail _ (.head _))))))
  have r4 := Lib.laidMet.reads hL (n := "strings.asciiSpace") (.tail _ (.tail _ (.tail _ (.tail _ (.tail _ (.tail _ (.tail _ (.head _))))))))
  have r5 := Lib.laidMet.reads hL (n := "unicode/utf8.first") (.tail _ (.tail _ (.tail _ (.tail _ (.tail _ (.tail _ (.tail _ (.tail _ (.head _)))))))))
  rw [pow_eq] at r0
  rw [acc_eq] at r1
  rw [sp_eq] at r4
  rw [first_eq] at r5
  have hU : Lib.Utf8Tabs 6 7 W := utf8Tabs_of_reads (ρ := Tryz.lays260_ren) { Tryz.lays260 with } ⟨by kernel_rfl, by kernel_rfl, by kernel_rfl, by kernel_rfl, by kernel_rfl, by kernel_rfl, by kernel_rfl⟩ r5 r1
  have hV : Vars W := ⟨tab_of_reads named_pow (by kernel_rfl) Tryz.underlying249 Tryz.underlying188 (by kernel_rfl) (by kernel_rfl) r0,
    tab_of_reads named_sp (by kernel_rfl) Tryz.underlying191 Tryz.underlying5 (by kernel_rfl) (by kernel_rfl) r4,
    ev_of_reads (by kernel_rfl) (by kernel_rfl) Tryz.underlying146 r3,
    ev_of_reads (by kernel_rfl) (by kernel_rfl) Tryz.underlying146 r2,
    Tryz.laysM138.s1_3 W hsh⟩
  refine ⟨⟨?_, Nat.le_refl _, hU⟩, hV⟩
  obtain ⟨cs, hh, _⟩ := hsh.1 10 #[.pointer none] 217 (of_decide_eq_true (by kernel_rfl)) (by kernel_rfl)
  exact (Array.getElem?_eq_some_iff.1 hh).1

/-- A world for the witness: the settled one, the variables holding what their initialisers lay. -/
noncomputable def laidWorld (os : Os) : World :=
  let N := (World.settled Tryz.prog os).heap.size
  let w0 := World.holding Tryz.prog os ⟨#[.cells (Lib.whiteT.map fun (z : Nat) => Value.int .u16 (z : Int)).toArray 235, .cells #[.slice (some ⟨N, 0, none⟩) 7 7, .slice none 0 0, .int .i64 2] 233,
    .cells #[.string ⟨#[118, 97, 108, 117, 101, 32, 111, 117, 116, 32, 111, 102, 32, 114, 97, 110, 103, 101]⟩] 265, .cells #[.string ⟨#[105, 110, 118, 97, 108, 105, 100, 32, 115, 121, 110, 116, 97, 120]⟩] 265], #[], []⟩
  let put (h : Array Obj) (g : Nat) (cs : Array Value) : Array Obj := h.modify g fun
    | .cells _ t frozen => .cells cs t frozen
    | o => o
  let h1 := put w0.heap 6 (Lib.firstTab.map fun z => Value.int .u8 z).toArray
  let h2 := put h1 7 ((List.range 16).flatMap fun i => [Value.int .u8 (Lib.accLo i), Value.int .u8 (Lib.accHi i)]).toArray
  let h3 := put h2 0 (Lib.asciiSpaceTab.map fun z => Value.int .u8 z).toArray
  let h4 := put h3 3 (Lib.pow10Tab.map fun z => Value.int .u64 z).toArray
  let h5 := put h4 8 (Lib.deBruijn32tab.map fun (z : Nat) => Value.int .u8 (z : Int)).toArray
  let h6 := put h5 9 (Lib.deBruijn64tab.map fun (z : Nat) => Value.int .u8 (z : Int)).toArray
  let h7 := put h6 1 #[.pointer (some ⟨N + 1, 0, none⟩)]
  let h8 := put h7 5 #[.iface 263 (.pointer (some ⟨N + 2, 0, none⟩))]
  let h9 := put h8 4 #[.iface 263 (.pointer (some ⟨N + 3, 0, none⟩))]
  { w0 with heap := h9 }
theorem laid_met (os : Os) (args : Array Value) : laidMet Tryz.prog laidL ((laidWorld os).forCall (fun _ _ => 0) ⟨#[], args, []⟩).memory :=
  (LaidIn.of_run (List.range 64) 8 (by kernel_rfl) (by kernel_rfl) (by kernel_rfl) (by kernel_rfl)).met
end Go.Proofs.YtmfoiceofhcicaaGreatDoor

namespace Go.Proofs.YtmfoiceofhcicaaGreatDoor
open Go.ChangeShapes Go.WideShapes Go.ChangeAt Go.RowKit

/-- The blocks that there are. -/
abbrev InW (w : World) : Nat → Prop := fun x => x < w.heap.size
theorem cellsPart : Tryz.prog.cellsOf 68 = 7 := by kernel_rfl
theorem cellsCase : Tryz.prog.cellsOf 70 = 2 := by kernel_rfl
theorem cellsInt : Tryz.prog.cellsOf 3 = 1 := by kernel_rfl
theorem cellsStr : Tryz.prog.cellsOf 9 = 1 := by kernel_rfl
theorem cellsParts : Tryz.prog.cellsOf 22 = 1 := by kernel_rfl
theorem cellsCases : Tryz.prog.cellsOf 66 = 1 := by kernel_rfl
section
variable {H : Type} {enc : TypeId × Value → H} {w : World} {base : Nat} {spare : Nat → Bool} {held : Bool}
theorem up_lit (k : IntKind) (z : Int) : Rows.uptoBulk (DataW.lit (H := H) (.int k z)) = 1 := by simp [Rows.uptoBulk]
theorem up_str (t : ByteArray) : Rows.uptoBulk (DataW.lit (H := H) (.string t.data.toList)) = t.size + 1 := by
  simp [Rows.uptoBulk]
theorem up_append (a b : List (DataW H)) : Rows.uptoBulkAll (a ++ b) = Rows.uptoBulkAll a + Rows.uptoBulkAll b := by
  induction a with
  | nil => simp [Rows.uptoBulkAll]
  | cons x r ih => simp only [List.cons_append, Rows.uptoBulkAll, ih]; omega
theorem up_at : ∀ (l : List (DataW H)) (i : Nat) (d : DataW H), l[i]? = some d → Rows.uptoBulk d ≤ Rows.uptoBulkAll l
  | x :: r, 0, d, h => by simp at h; subst h; simp only [Rows.uptoBulkAll]; omega
  | x :: r, i + 1, d, h => by have := up_at r i d (by simpa using h); simp only [Rows.uptoBulkAll]; omega
theorem flatten_at {size : Nat} : ∀ (rows : List (List Value)) (_ : ∀ (i : Nat) r, rows[i]? = some r → r.length = size) (_ : 0 < size) (j : Nat) (u : Value), rows.flatten[j]? = some u →
    ∃ r, rows[j / size]? = some r ∧ r[j % size]? = some u
  | [], _, _, j, u, h => by simp at h
  | r :: rows, hr, hs, j, u, h => by
    have h0 := hr 0 r rfl
    rw [List.flatten_cons] at h
    by_cases hj : j < size
    · rw [List.getElem?_append_left (by omega)] at h
      exact ⟨r, by rw [Nat.div_eq_of_lt hj]; rfl, by rw [Nat.mod_eq_of_lt hj]; exact h⟩
    · rw [List.getElem?_append_right (by omega), h0] at h
      obtain ⟨r', h1, h2⟩ := flatten_at rows (fun i r h => hr (i + 1) r (by simpa using h)) hs (j - size) u h
      have e : j = (j - size) + size := by omega
      refine ⟨r', ?_, ?_⟩
      · rw [e, Nat.add_div_right _ hs]; simpa using h1
      · rw [e, Nat.add_mod_right]; exact h2
theorem open_rows {t e : TypeId} {fuel size : Nat} {c : Value} {x : DataW H × List MemPlace} (ht : Tryz.prog.underlying t = some (.slice e)) (he : Tryz.prog.cellsOf e = size) (hs : 0 < size)
    (h : DataW.trod enc Tryz.prog w base spare held fuel t [c] = some x) :
    ∃ (rows : List (List Value)) (ds : List (DataW H)) (m : Nat), ds.length = rows.length ∧ RdC (InW w) w c rows.length rows.flatten ∧ Rows.uptoBulkAll ds + 1 ≤ Rows.uptoBulk x.1 ∧
      ∀ (i : Nat) r d, rows[i]? = some r → ds[i]? = some d → r.length = size ∧ ∃ pl, DataW.trod enc Tryz.prog w base spare held m e r = some (d, pl) := by
  rcases Deep.open_slice ht h with ⟨hc, rfl⟩ | ⟨a, len, cap, m, n', D, Pl, hc, hb, hl, hm, hmm, rfl, hx⟩
  · simp at hc
    subst hc
    exact ⟨[], [], 0, rfl, RdC.nil _ w, by simp [Rows.uptoBulkAll, Rows.uptoBulk], fun i r d h => by simp at h⟩
  · simp at hc
    subst hc
    have hlm : len ≤ m := by rw [hmm]; split <;> omega
    rw [he] at hx
    have hx2 : ∀ i, i < len → ∃ r : List Value, r.length = size ∧ (∀ j, j < size → w.cell? (a.add (i * size + j)) = r[j]?) ∧ DataW.trod enc Tryz.prog w base spare held n' e r = some (D i, Pl i) := fun i hi => by
      obtain ⟨cs', h1, h2⟩ := hx i (by omega)
      obtain ⟨_, h4, h3⟩ := World.cells?_some h1
      exact ⟨cs', h4, fun j hj => by rw [← add_of_add]; exact h3 j hj, h2⟩
    have hI : Inhabited (List Value) := ⟨[]⟩
    obtain ⟨f, hf⟩ := Deep.choose_lt hx2
    have hrow : ∀ (i : Nat) r, ((List.range len).map f)[i]? = some r → i < len ∧ r = f i := fun i r h => by
      have hi : i < len := by have := (List.getElem?_eq_some_iff.1 h).1; simpa using this
      rw [List.getElem?_map, List.getElem?_range hi] at h
      exact ⟨hi, by simpa using h.symm⟩
    refine ⟨(List.range len).map f, (List.range len).map D, n', by simp, ⟨some a, cap, by simp, by simpa using hl, hm, fun hne => ?_⟩, ?_, fun i r d h1 h2 => ?_⟩
    · have hlen : 0 < len := by simpa using hne
      have h00 := (hf 0 hlen).2.1 0 hs
      obtain ⟨r0, hr0⟩ : ∃ u, (f 0)[0]? = some u := ⟨_, List.getElem?_eq_getElem (by rw [(hf 0 hlen).1]; exact hs)⟩
      have hsp : a.spot = none ∧ a.block < w.heap.size := by
        rw [show a.add (0 * size + 0) = a by simp [Addr.add], hr0] at h00
        have h01 := h00
        unfold World.cell? at h01
        split at h01
        · rename_i heq
          refine ⟨?_, (Array.getElem?_eq_some_iff.1 heq).1⟩
          cases hs : a.spot with
          | none => rfl
          | some _ => rw [hs] at h01; simp at h01
        · cases h01
      obtain ⟨b, o, sp⟩ := a
      obtain ⟨hs1, hs2⟩ := hsp
      simp only at hs1 hs2
      subst hs1
      refine ⟨b, o, rfl, hs2, hs2, fun j u hu => ?_⟩
      obtain ⟨r, h1, h2⟩ := flatten_at ((List.range len).map f) (size := size) (fun i r h => by obtain ⟨hi, rfl⟩ := hrow i r h; exact (hf i hi).1) hs j u hu
      obtain ⟨hi, rfl⟩ := hrow _ _ h1
      have := (hf (j / size) hi).2.1 (j % size) (Nat.mod_lt _ hs)
      rw [h2, show j / size * size + j % size = j by rw [Nat.mul_comm]; exact Nat.div_add_mod ..] at this
      rw [← this]
      unfold Addr.add
      split <;> simp_all
    · simp only [Rows.uptoBulk]; omega
    · obtain ⟨hi, rfl⟩ := hrow i r h1
      rw [List.getElem?_map, List.getElem?_range hi] at h2
      obtain rfl : D i = d := by simpa using h2
      exact ⟨(hf i hi).1, _, (hf i hi).2.2⟩
set_option maxRecDepth 100000 in
theorem open_part {n : Nat} {cs : List Value} {d : DataW H} {pl : List MemPlace} (h : DataW.trod enc Tryz.prog w base spare held n 68 cs = some (d, pl)) :
    ∃ (k : Int) (tx nm ty st : ByteArray) (off : Int) (cv : Value) (y : DataW H × List MemPlace) (m : Nat), cs = [.int .i64 k, .string tx, .string nm, .string ty, .string st, .int .i64 off, cv] ∧
      DataW.trod enc Tryz.prog w base spare held m 66 [cv] = some y ∧ 1 + tx.size + nm.size + ty.size + st.size + Rows.uptoBulk y.1 ≤ Rows.uptoBulk d := by
  obtain ⟨xs, m, rfl, hx, hl, hxl, hall⟩ := DataW.trod_struct Tryz.underlying68 h
  simp only [Prod.mk.injEq] at hx
  obtain ⟨rfl, _⟩ := hx
  rw [cellsPart] at hl
  match cs, hl with
  | [c0, c1, c2, c3, c4, c5, c6], _ =>
    have h0 : DataW.trod enc Tryz.prog w base spare held m 3 (([c0, c1, c2, c3, c4, c5, c6].drop 0).take (Tryz.prog.cellsOf 3)) = xs[0]? := hall 0 _ rfl
    have h1 : DataW.trod enc Tryz.prog w base spare held m 9 (([c0, c1, c2, c3, c4, c5, c6].drop 1).take (Tryz.prog.cellsOf 9)) = xs[1]? := hall 1 _ rfl
    have h2 : DataW.trod enc Tryz.prog w base spare held m 9 (([c0, c1, c2, c3, c4, c5, c6].drop 2).take (Tryz.prog.cellsOf 9)) = xs[2]? := hall 2 _ rfl
    have h3 : DataW.trod enc Tryz.prog w base spare held m 9 (([c0, c1, c2, c3, c4, c5, c6].drop 3).take (Tryz.prog.cellsOf 9)) = xs[3]? := hall 3 _ rfl
    have h4 : DataW.trod enc Tryz.prog w base spare held m 9 (([c0, c1, c2, c3, c4, c5, c6].drop 4).take (Tryz.prog.cellsOf 9)) = xs[4]? := hall 4 _ rfl
    have h5 : DataW.trod enc Tryz.prog w base spare held m 3 (([c0, c1, c2, c3, c4, c5, c6].drop 5).take (Tryz.prog.cellsOf 3)) = xs[5]? := hall 5 _ rfl
    have h6 : DataW.trod enc Tryz.prog w base spare held m 66 (([c0, c1, c2, c3, c4, c5, c6].drop 6).take (Tryz.prog.cellsOf 66)) = xs[6]? := hall 6 _ rfl
    rw [cellsInt] at h0 h5
    rw [cellsStr] at h1 h2 h3 h4
    rw [cellsCases] at h6
    match xs, hxl with
    | [y0, y1, y2, y3, y4, y5, y6], _ =>
      obtain ⟨k, e0, rfl, _⟩ := DataW.trod_int Tryz.underlying3 h0
      obtain ⟨t1, e1, rfl, _⟩ := DataW.trod_string Tryz.underlying9 h1
      obtain ⟨t2, e2, rfl, _⟩ := DataW.trod_string Tryz.underlying9 h2
      obtain ⟨t3, e3, rfl, _⟩ := DataW.trod_string Tryz.underlying9 h3
      obtain ⟨t4, e4, rfl, _⟩ := DataW.trod_string Tryz.underlying9 h4
      obtain ⟨z, e5, rfl, _⟩ := DataW.trod_int Tryz.underlying3 h5
      simp at e0 e1 e2 e3 e4 e5
      subst e0 e1 e2 e3 e4 e5
      refine ⟨k, t1, t2, t3, t4, z, c6, y6, m, rfl, by simpa using h6, ?_⟩
      simp only [List.map_cons, List.map_nil, Rows.uptoBulk.eq_def (.agg _), Rows.uptoBulkAll, up_str, up_lit]
      omega
set_option maxRecDepth 100000 in
theorem open_case {n : Nat} {cs : List Value} {d : DataW H} {pl : List MemPlace} (h : DataW.trod enc Tryz.prog w base spare held n 70 cs = some (d, pl)) :
    ∃ (key : ByteArray) (pv : Value) (y : DataW H × List MemPlace) (m : Nat), cs = [.string key, pv] ∧
      DataW.trod enc Tryz.prog w base spare held m 22 [pv] = some y ∧ 1 + key.size + Rows.uptoBulk y.1 ≤ Rows.uptoBulk d := by
  obtain ⟨xs, m, rfl, hx, hl, hxl, hall⟩ := DataW.trod_struct Tryz.underlying70 h
  simp only [Prod.mk.injEq] at hx
  obtain ⟨rfl, _⟩ := hx
  rw [cellsCase] at hl
  match cs, hl with
  | [c0, c1], _ =>
    have h0 : DataW.trod enc Tryz.prog w base spare held m 9 (([c0, c1].drop 0).take (Tryz.prog.cellsOf 9)) = xs[0]? := hall 0 _ rfl
    have h1 : DataW.trod enc Tryz.prog w base spare held m 22 (([c0, c1].drop 1).take (Tryz.prog.cellsOf 22)) = xs[1]? := hall 1 _ rfl
    rw [cellsStr] at h0
    rw [cellsParts] at h1
    match xs, hxl with
    | [y0, y1], _ =>
      obtain ⟨t0, e0, rfl, _⟩ := DataW.trod_string Tryz.underlying9 h0
      simp at e0
      subst e0
      refine ⟨t0, c1, y1, m, rfl, by simpa using h1, ?_⟩
      simp only [List.map_cons, List.map_nil, Rows.uptoBulk.eq_def (.agg _), Rows.uptoBulkAll, up_str]
      omega
theorem build_parts {N : Nat} {S : Nat → Prop} : ∀ (rows : List (List Value)) (ds : List (DataW H)), ds.length = rows.length →
    (∀ (i : Nat) r d, rows[i]? = some r → ds[i]? = some d → ∃ (p : PT) (cv : Value), r = p.cells cv ∧ LiesC N S w cv p.cs ∧ ∀ m, 1 + p.tx.size + p.nm.size + p.ty.size + p.st.size + bulkC (bulkF m) p.cs ≤ Rows.uptoBulk d) →
    ∃ (l : List PT) (vs : List Value), l.length = rows.length ∧ vs.length = l.length ∧ rows.flatten = partC l vs ∧ (∀ (i : Nat) (p : PT) (cv : Value), l[i]? = some p → vs[i]? = some cv → LiesC N S w cv p.cs) ∧ ∀ m, bulkL (bulkF m) l ≤ Rows.uptoBulkAll ds
  | [], [], _, _ => ⟨[], [], rfl, rfl, rfl, fun i p cv h => by simp at h, fun m => Nat.zero_le _⟩
  | r :: rows, d :: ds, hl, hq => by
    obtain ⟨p, cv, rfl, h1, h2⟩ := hq 0 r d rfl rfl
    obtain ⟨l, vs, g1, g2, g3, g4, g5⟩ := build_parts rows ds (by simpa using hl) fun i r d h h' => hq (i + 1) r d (by simpa using h) (by simpa using h')
    refine ⟨p :: l, cv :: vs, by simp [g1], by simp [g2], by rw [List.flatten_cons, g3]; rfl, fun i q u hi hu => ?_, fun m => ?_⟩
    · cases i with
      | zero => simp at hi hu; subst hi; subst hu; exact h1
      | succ i => exact g4 i q u (by simpa using hi) (by simpa using hu)
    · have := h2 m; have := g5 m
      simp only [bulkL, Rows.uptoBulkAll]; omega
theorem build_cases {N : Nat} {S : Nat → Prop} : ∀ (rows : List (List Value)) (ds : List (DataW H)), ds.length = rows.length →
    (∀ (i : Nat) r d, rows[i]? = some r → ds[i]? = some d → ∃ (c : CT) (pv : Value), r = [.string c.1, pv] ∧ Lies N S w pv c.2 ∧ ∀ m, 1 + c.1.size + bulkF m c.2 ≤ Rows.uptoBulk d) →
    ∃ (l : List CT) (us : List Value), l.length = rows.length ∧ us.length = l.length ∧ rows.flatten = caseC l us ∧ (∀ (i : Nat) (c : CT) (pv : Value), l[i]? = some c → us[i]? = some pv → Lies N S w pv c.2) ∧ ∀ m, bulkC (bulkF m) l ≤ Rows.uptoBulkAll ds
  | [], [], _, _ => ⟨[], [], rfl, rfl, rfl, fun i p cv h => by simp at h, fun m => Nat.zero_le _⟩
  | r :: rows, d :: ds, hl, hq => by
    obtain ⟨c, pv, rfl, h1, h2⟩ := hq 0 r d rfl rfl
    obtain ⟨l, us, g1, g2, g3, g4, g5⟩ := build_cases rows ds (by simpa using hl) fun i r d h h' => hq (i + 1) r d (by simpa using h) (by simpa using h')
    refine ⟨c :: l, pv :: us, by simp [g1], by simp [g2], by rw [List.flatten_cons, g3]; rfl, fun i q u hi hu => ?_, fun m => ?_⟩
    · cases i with
      | zero => simp at hi hu; subst hi; subst hu; exact h1
      | succ i => exact g4 i q u (by simpa using hi) (by simpa using hu)
    · have := h2 m; have := g5 m
      simp only [bulkC, Rows.uptoBulkAll]; omega
/-- Parts, opened: how they lie, and how much there is in them. -/
theorem open_parts : ∀ (N fuel : Nat) (c : Value) (x : DataW H × List MemPlace), DataW.trod enc Tryz.prog w base spare held fuel 22 [c] = some x → Rows.uptoBulk x.1 ≤ N →
    ∃ l, Lies (N + 1) (InW w) w c l ∧ ∀ m, bulkF m l ≤ Rows.uptoBulk x.1
  | N, fuel, c, x, h, hN => by
    obtain ⟨rows, ds, m, hlen, hr, hb, hall⟩ := open_rows Tryz.underlying22 cellsPart (by omega) h
    cases N with
    | zero => omega
    | succ N =>
      obtain ⟨l, vs, g1, g2, g3, g4, g5⟩ := build_parts (w := w) (N := N + 1) (S := InW w) rows ds hlen fun i r d h1 h2 => by
        obtain ⟨_, pl, h3⟩ := hall i r d h1 h2
        obtain ⟨k, tx, nm, ty, st, off, cv, y, m', rfl, h4, h5⟩ := open_part h3
        have hd := up_at ds i d h2
        obtain ⟨rows', ds', m'', hlen', hr', hb', hall'⟩ := open_rows Tryz.underlying66 cellsCase (by omega) h4
        obtain ⟨cs, us, f1, f2, f3, f4, f5⟩ := build_cases (w := w) (N := N + 1) (S := InW w) rows' ds' hlen' fun i' r' d' h1' h2' => by
          obtain ⟨_, pl', h3'⟩ := hall' i' r' d' h1' h2'
          obtain ⟨key, pv, y', m3, rfl, h4', h5'⟩ := open_case h3'
          have hd' := up_at ds' i' d' h2'
          obtain ⟨l', hl', hl2⟩ := open_parts N m3 pv y' h4' (by omega)
          exact ⟨(key, l'), pv, rfl, hl', fun m => by have := hl2 m; simp only; omega⟩
        refine ⟨⟨k, tx, nm, ty, st, off, cs⟩, cv, rfl, ⟨us, f2, ?_, f4⟩, fun m => by have := f5 m; simp only; omega⟩
        show RdC (InW w) w cv cs.length (caseC cs us)
        rw [f1, ← f3]
        exact hr'
      refine ⟨l, ⟨vs, g2, ?_, g4⟩, fun m => ?_⟩
      · rw [g1, ← g3]; exact hr
      · cases m with
        | zero => exact Nat.zero_le _
        | succ m => have := g5 m; simp only [bulkF]; omega
end
theorem cellsU8 : Tryz.prog.cellsOf 5 = 1 := by kernel_rfl
theorem build_bytes : ∀ (rows : List (List Value)), (∀ (i : Nat) r, rows[i]? = some r → ∃ c : UInt8, r = [cellU c]) → ∃ l : List UInt8, l.length = rows.length ∧ rows.flatten = l.map cellU
  | [], _ => ⟨[], rfl, rfl⟩
  | r :: rows, h => by
    obtain ⟨c, rfl⟩ := h 0 r rfl
    obtain ⟨l, h1, h2⟩ := build_bytes rows fun i r hr => h (i + 1) r (by simpa using hr)
    exact ⟨c :: l, by simp [h1], by rw [List.flatten_cons, h2]; rfl⟩
theorem u8_of {n : Int} (h : (Lit.int .u8 n).wf = true) : ∃ c : UInt8, (.int .u8 n : Value) = cellU c := by
  have h2 : 0 ≤ n ∧ n < 256 := by
    simp [Lit.wf, IntKind.min, IntKind.max, IntKind.signed, IntKind.bits] at h
    omega
  refine ⟨UInt8.ofNat n.toNat, ?_⟩
  unfold cellU
  rw [UInt8.toNat_ofNat']
  congr 1
  omega
section
variable {H : Type} {enc : TypeId × Value → H} {w : World} {base : Nat} {spare : Nat → Bool} {held : Bool}
/-- Bytes, opened. -/
theorem open_bytes {fuel : Nat} {c : Value} {x : DataW H × List MemPlace} (h : DataW.trod enc Tryz.prog w base spare held fuel 25 [c] = some x) : ∃ l : List UInt8, RdU w c l := by
  obtain ⟨rows, ds, m, hlen, hr, -, hall⟩ := open_rows Tryz.underlying25 cellsU8 (by omega) h
  obtain ⟨l, h1, h2⟩ := build_bytes rows fun i r hi => by
    obtain ⟨d, hd⟩ : ∃ d, ds[i]? = some d := ⟨_, List.getElem?_eq_getElem (by rw [hlen]; exact (List.getElem?_eq_some_iff.1 hi).1)⟩
    obtain ⟨_, pl, h3⟩ := hall i r d hi hd
    obtain ⟨n, rfl, -, hw⟩ := DataW.trod_int Tryz.underlying5 h3
    obtain ⟨c, hc⟩ := u8_of hw
    exact ⟨c, by rw [hc]⟩
  refine ⟨l, ?_⟩
  unfold RdU
  rw [h1, ← h2]
  exact hr.mono fun _ _ => trivial
end
end Go.Proofs.YtmfoiceofhcicaaGreatDoor

namespace Go.Proofs.YtmfoiceofhcicaaGreatDoor
open Go.RowKit Go.IntWalk Go.Shelf
attribute [local go_sem] Oper.semAt_some

theorem own_formA {w : World} {B : Nat} {v : Value} {l : List UInt8} (h : OwnU w B v l) (hne : 0 < l.length) : ∃ b c, v = .slice (some ⟨b, 0, none⟩) l.length c := by
  obtain ⟨b, m, cap, rfl⟩ := own_some h hne
  obtain ⟨A', c', he⟩ := h.form
  injection he with _ hm _
  exact ⟨b, cap, by rw [hm]⟩

set_option maxRecDepth 100000 in
set_option maxHeartbeats 8000000 in
/-- CodeAhead. -/
theorem law_ahead (n : Nat) (l : List PT) (S : Nat → Prop) (v : Value) (B : Nat) (w : World) (hE : EnvM B w) (hL : Lies n S w v l) (hS : ∀ x, S x → x < w.heap.size) (hb : bulkF n l ≤ 900000000) :
    Calls Tryz.prog 3 #[v] w fun e w' => e = .returned (.bool true) ∧ Keep [] w w' := by
  obtain ⟨A, m, cap, rfl⟩ := hL.form
  have hR0 : Blk (w.alloc (.cells #[.bool false] 4)) w.heap.size 4 #[.bool false] := Blk.new _ _ _
  have hK0 : Keep [] w (w.alloc (.cells #[.bool false] 4)) := (Keep.refl _ _).alloc _
  have HWK : Hid (∀ W, Keep [] w W → Calls Tryz.prog 9 #[] W fun e w' => e = .returned (.bool true) ∧ Keep [] W w') := fun W hW => wakes20_any W (hE.keep hW (by simp))
  have HDP : Hid (∀ W, Keep [] w W → Calls Tryz.prog 10 #[.slice A m cap, .int .i64 20] W fun e w' => e = .returned (.bool (deepF 20 l)) ∧ Keep [] W w') := fun W hW => deep_any 20 (by omega) n l S _ W (hL.keep hW (by simp))
  have HCO : Hid (∀ W, Keep [] w W → Calls Tryz.prog 11 #[.slice A m cap] W (CompO n l W)) := fun W hW => ccompile_any n l S _ B W (hE.keep hW (by simp)) (hL.keep hW (by simp)) (fun x hx => Nat.lt_of_lt_of_le (hS x hx) hW.size) hb
  have HE := Lib.hid hE
  have hdp := hL.dp
  refine (callsIn_wide (n := 8)).1 ?_
  refine callsIn_of_wp_marks Tryz.func3 rfl trivial ?_ rfl
  simp only [Tryz.ntmps3, List.size_toArray, List.length_cons, List.length_nil, Nat.reduceAdd, Nat.reduceSub, Array.replicate_succ, Array.replicate_zero, List.push_toArray, List.append_toArray, List.nil_append, List.cons_append]
  have HR0 := Lib.hid hR0
  have HK0 := Lib.hid hK0
  have HWK0 := Lib.hid (HWK.out _ hK0)
  clear hE hL hS hb hR0 hK0
  cases hd : deepF 20 l with
  | true =>
    rw [hd] at HDP
    clear hd
    gi_wp2_with (first
      | (refine ⟨trivial, ?_⟩; gi_at_call 9; refine (callsIn_wide.2 HWK0.out).mono ?_; rintro e w1 ⟨rfl, hk1⟩; have hR1 := HR0.out.keep hk1 (by simp); have b0 : w1.cell? ⟨w.heap.size, 0, none⟩ = some (.bool false) := hR1.cell_eq rfl; have z0 := hR1.frozen 0; have HR1 := Lib.hid hR1; have HK1 := Lib.hid (HK0.out.nil hk1); have HD1 := Lib.hid (HDP.out w1 HK1.out); clear hk1 hR1)
      | (refine ⟨trivial, ?_⟩; gi_at_call 10; refine (callsIn_wide.2 HD1.out).mono ?_; rintro e w2 ⟨rfl, hk2⟩; have hR2 := HR1.out.keep hk2 (by simp); have b2 : w2.cell? ⟨w.heap.size, 0, none⟩ = some (.bool false) := hR2.cell_eq rfl; have z2 := hR2.frozen 0; have HR2 := Lib.hid hR2; have HK2 := Lib.hid (HK1.out.nil hk2); clear hk2 hR2)
      | fail)
    have hs : Keep [w.heap.size] w2 (w2.setCell ⟨w.heap.size, 0, none⟩ (.bool true)) := (Keep.refl _ _).setCell (.inl (by simp)) _
    have hR3 : Blk (w2.setCell ⟨w.heap.size, 0, none⟩ (.bool true)) w.heap.size 4 #[.bool true] := by simpa using Blk.set_ HR2.out 0 (.bool true)
    have hK3 : Keep [] w (w2.setCell ⟨w.heap.size, 0, none⟩ (.bool true)) := HK2.out.trans hs (fun x hx => .inr (by simp at hx; omega))
    have x3 := hR3.cell_eq (i := 0) rfl
    clear b0 b2 hs hR3
    generalize w2.setCell ⟨w.heap.size, 0, none⟩ (.bool true) = W3 at *
    refine ⟨.bool true, ?_, rfl, hK3⟩
    simp [results, Tryz.results3, go_sem, x3]
  | false =>
    rw [hd] at HDP
    clear hd
    by_cases hf : (formF n l).2 = 0
    · obtain ⟨hcl, hc7⟩ := code_short hf
      have HC1 : Hid (∀ W, Keep [] w W → Calls Tryz.prog 11 #[.slice A m cap] W fun e w' => ∃ b c1, e = .returned (.tuple #[.slice (some ⟨b, 0, none⟩) (codeF n l).length c1, .int .i64 0]) ∧ OwnU w' W.heap.size (.slice (some ⟨b, 0, none⟩) (codeF n l).length c1) (codeF n l) ∧ Keep [] W w') := fun W hW => (HCO.out W hW).mono fun e w' h => by
        obtain ⟨h, hk⟩ := h
        rcases h with h | h | h
        · exact absurd hf h.1
        · omega
        · obtain ⟨-, -, u, rfl, ho⟩ := h
          obtain ⟨b, c1, rfl⟩ := own_formA ho (by omega)
          exact ⟨b, c1, rfl, ho, hk⟩
      clear HCO
      have hmm := @run_makeMap Tryz.prog
      gi_wp2_with (first
        | (refine ⟨trivial, ?_⟩; gi_at_call 9; refine (callsIn_wide.2 HWK0.out).mono ?_; rintro e w1 ⟨rfl, hk1⟩; have HR1 := Lib.hid (HR0.out.keep hk1 (by simp)); have HK1 := Lib.hid (HK0.out.nil hk1); have HD1 := Lib.hid (HDP.out w1 HK1.out); clear hk1)
        | (refine ⟨trivial, ?_⟩; gi_at_call 10; refine (callsIn_wide.2 HD1.out).mono ?_; rintro e w2 ⟨rfl, hk2⟩; have HR2 := Lib.hid (HR1.out.keep hk2 (by simp)); have HK2 := Lib.hid (HK1.out.nil hk2); have HC2 := Lib.hid (HC1.out w2 HK2.out); clear hk2)
        | (refine ⟨trivial, ?_⟩; gi_at_call 11; refine (callsIn_wide.2 HC2.out).mono ?_; rintro e w3 ⟨cb, c1, rfl, ho3, hk3⟩; have HO3 := Lib.hid ho3; have HR3 := Lib.hid (HR2.out.keep hk3 (by simp)); have HK3 := Lib.hid (HK2.out.nil hk3); clear hk3 ho3)
        | (refine ⟨trivial, ?_⟩; gi_at_call 12; refine (callsIn_wide.2 (cops_any _ _ (codeF n l) (HO3.out.reads.keep (((((((Keep.refl [] w3).alloc _).alloc _).alloc _).alloc _).alloc _).alloc _)) (by omega))).mono ?_; rintro e w6 ⟨bb, u, rfl, hbu, hbb, hu, hk6⟩; have HBU := Lib.hid hbu; have HBB := Lib.hid hbb; have HU6 := Lib.hid hu; have HK6 := Lib.hid hk6; clear hbu hbb hu hk6)
        | fail)
      have hread : ∀ W, Keep [] w6 W → Calls Tryz.prog 32 #[u] W (ReadO (codeF n l) W) := fun W hW => read_any W B u _ (HE.out.keep ((HK3.out.nil ((((((((Keep.refl [] w3).alloc _).alloc _).alloc _).alloc _).alloc _).alloc _).nil HK6.out)).nil hW) (by simp)) (HU6.out.keep hW) (by omega) (small_code hdp hf)
      have hrd : readF (codeF n l) = some (poolF (textF n l), codeO n l, l) := (read_code hdp hf).2.2
      have hol : (codeO n l).length ≤ 1000000 := by
        obtain ⟨h1, -, -, h4⟩ := form_fine hf
        have h2 := (codeO_chn h1).len
        have h3 := lenF_bulk n l
        omega
      have hq0 : Blk w6 w3.heap.size 3 #[.int .i64 0] := ((((((Blk.new w3 _ _).alloc _).alloc _).alloc _).alloc _).alloc _).keep HK6.out (by simp)
      have hq1 : Blk w6 (w3.heap.size + 1) 3 #[.int .i64 0] := (((((Blk.new' _ _ _ _ (by simp)).alloc _).alloc _).alloc _).alloc _).keep HK6.out (by simp)
      have hq2 : Blk w6 (w3.heap.size + 2) 3 #[.int .i64 (-1)] := ((((Blk.new' _ _ _ _ (by simp)).alloc _).alloc _).alloc _).keep HK6.out (by simp)
      have hq3 : OwnMapB w6 (w3.heap.size + 3) 0 (.map []) := (((OwnMapB.made _ _ (by simp)).alloc _).alloc _).keep HK6.out (by simp)
      have hq4 : Blk w6 (w3.heap.size + 4) 29 #[.map (some (w3.heap.size + 3))] := ((Blk.new' _ _ _ _ (by simp)).alloc _).keep HK6.out (by simp)
      have hq5 : Blk w6 (w3.heap.size + 5) 30 #[.slice none 0 0] := (Blk.new' _ _ _ _ (by simp)).keep HK6.out (by simp)
      have hk36 : Keep [] w3 w6 := (((((((Keep.refl [] w3).alloc _).alloc _).alloc _).alloc _).alloc _).alloc _).nil HK6.out
      have hfar : w3.heap.size + 6 ≤ w6.heap.size := by have := HK6.out.size; simp at this; omega
      obtain ⟨hrt, -, -, -⟩ := form_fine hf
      have hne : 0 < (codeO n l).length := by unfold codeO; simp
      have HAH : Hid (∀ W, Keep [] w6 W → w6.heap.size + 2 ≤ W.heap.size → AhI w3 w6.heap.size (lenF n l) (codeO n l) W.heap.size 0 W) := fun W hW hz => AhI.start hne (codeO_chn hrt) hfar hk36 hq0 hq1 hq2 hq3 hq4 hq5 hW hz
      clear hq0 hq1 hq2 hq3 hq4 hq5
      have hlf : lenF n l + 1 ≤ 1000000 := by
        obtain ⟨-, -, -, h4⟩ := form_fine hf
        have h3 := lenF_bulk n l
        omega
      have HRT := Lib.hid hrt
      have HSEQ := Lib.hid (ops1_seq 7 w6 bb u (codeF n l) HBU.out HBB.out _ (codeO n l) l hrd hol hread)
      have HRD := Lib.hid hrd
      have HOL := Lib.hid hol
      clear hread hrd hol hrt
      refine wpIn_rangeG (F := Fence.wide) (n := 8) rfl (by omega) (gf := 31) (lb := #[.pointer (some ⟨bb, 0, none⟩)]) rfl trivial (enters_of Tryz.func31 (by kernel_rfl) rfl)
        HSEQ.out (fun _ => rfl)
        (fun lo hi pre W => AhI w3 w6.heap.size (lenF n l) (codeO n l) hi pre.length W) (fun _ _ _ _ _ => False) (fun lo hi pre A B h hk => h.keep hk (fun x hx => by simp at hx; have := h.far; have := h.ge; omega)) (fun _ _ _ _ _ _ h _ => h) (fun W hW hz => HAH.out W hW hz) ?ax ?wx ?hwx ?assign ?body ?done ?stop
      case assign =>
        intro x W K hK
        dsimp only [encO, OT.cells, OE.kv, OE.tv]
        gi_wp2
        exact hK
      case hwx => exact fun x W => (Keep.refl _ _).alloc _
      case body =>
        rintro lo hi pre ⟨o, ⟨KA, kc⟩, ⟨TA, tc⟩⟩ W W' hlo hsz hI ⟨⟨-, hgt⟩, -, ho⟩ hkW
        have hI : AhI w3 w6.heap.size (lenF n l) (codeO n l) hi pre.length W := hI
        have hnext : (pre ++ [((o, (KA, kc), (TA, tc)) : OE)]).length = pre.length + 1 := by simp
        have hgt2 : RdC (fun y => lo ≤ y ∧ y < hi) W (.slice TA o.ts.length tc) o.ts.length (o.ts.map cellN) := hgt
        have ho1 : (codeO n l)[pre.length]? = some o := ho
        have hke : Keep [w6.heap.size + 1] W W' := ((Keep.refl _ W).alloc _).trans hkW (fun x hx => .inl hx)
        have hX : Blk W' W.heap.size 36 #[.int .i64 (o.at_ : Int), .int .i64 (o.nx : Int), .int .i64 (o.k : Int), .string o.tx, .string o.nm, .string o.ty, .string o.st, .int .i64 (o.off : Int), .slice KA o.ks.length kc, .slice TA o.ts.length tc] := (Blk.new _ _ _).keep hkW (by simp; have := hI.ge; have := hI.sz; omega)
        have hI2 := hI.keep hke (fun x hx => by simp at hx; have := hI.far; have := hI.ge; omega)
        have hgt3 := hgt2.keep hke (fun x hx hc => by simp at hx; omega)
        have hxhi : hi ≤ W.heap.size := hI.sz
        refine wpIn_mono (Q := fun e a W3 => e = .normal ∧ KeepB w6.heap.size lo hi W' W3 ∧ AhI w3 w6.heap.size (lenF n l) (codeO n l) hi (pre.length + 1) W3) ?_ (fun e a W3 h => by
          obtain ⟨rfl, h1, h2⟩ := h
          refine ⟨h1, ?_⟩
          show AhI w3 w6.heap.size (lenF n l) (codeO n l) hi (pre ++ [((o, (KA, kc), (TA, tc)) : OE)]).length W3
          rw [hnext]
          exact h2)
        obtain ⟨k, hk⟩ : ∃ k, pre.length = k := ⟨_, rfl⟩
        rw [hk] at hI2 ho1 ⊢
        obtain ⟨xb, hxb⟩ : ∃ xb, W.heap.size = xb := ⟨_, rfl⟩
        rw [hxb] at hX hxhi ⊢
        have hkl : k < (codeO n l).length := (List.getElem?_eq_some_iff.1 ho1).1
        obtain ⟨a, ha, hc⟩ := hI2.at_
        rw [drop_some ho1] at hc
        obtain ⟨hat, hlt, hc2⟩ := hc
        rw [← hat] at ha hlt
        obtain ⟨D, hm, hv⟩ := hI2.mp
        obtain ⟨tv, htb, hot⟩ := hI2.tg
        obtain ⟨TB, tcap, htv⟩ := hot.form
        have hen := hI2.en
        rw [if_neg (by omega)] at hen
        have p0 : W'.cell? ⟨xb, 0, none⟩ = some (.int .i64 (o.at_ : Int)) := hX.cell_eq rfl
        have p1 : W'.cell? ⟨xb, 1, none⟩ = some (.int .i64 (o.nx : Int)) := hX.cell_eq rfl
        have q6 : W'.cell? ⟨w3.heap.size + 1, 0, none⟩ = some (.int .i64 (o.at_ : Int)) := ha.cell_eq rfl
        have f6 := ha.frozen 0
        have q7 : W'.cell? ⟨w3.heap.size + 2, 0, none⟩ = some (.int .i64 (-1)) := hen.cell_eq rfl
        have q8 : W'.cell? ⟨w3.heap.size + 4, 0, none⟩ = some (.map (some (w3.heap.size + 3))) := hI2.st.cell_eq rfl
        have hnle : ¬ ((o.nx : Int) ≤ (o.at_ : Int)) := by omega
        have hfar3 : w3.heap.size + 6 ≤ xb := by have := hI2.far; have := hI2.ge; omega
        have hm6 : OwnMapB (W'.setCell ⟨w3.heap.size + 1, 0, none⟩ (.int .i64 (o.nx : Int))) (w3.heap.size + 3) k D := hm.keep ((Keep.refl [w3.heap.size + 1] W').setCell (.inl (by simp)) _) (by simp)
        have h81 : (W'.setCell ⟨w3.heap.size + 1, 0, none⟩ (.int .i64 (o.nx : Int))).cell? ⟨w3.heap.size + 4, 0, none⟩ = some (.map (some (w3.heap.size + 3))) := (hI2.st.keep ((Keep.refl [w3.heap.size + 1] W').setCell (.inl (by simp)) _) (by simp)).cell_eq rfl
        obtain ⟨NS, hNS⟩ : ∃ NS, ((codeO n l).take k).flatMap (·.ts) = NS := ⟨_, rfl⟩
        rw [hNS] at hot htv
        have HMD := Lib.hid hm.isMap
        have HM6 := Lib.hid hm6
        have HX := Lib.hid hX
        have HI := Lib.hid hI2
        have HT := Lib.hid hot
        have HTB := Lib.hid htb
        have HA := Lib.hid ha
        have HEN := Lib.hid hen
        have HRT3 := Lib.hid hgt3
        have HV := Lib.hid hv
        have HC2 := Lib.hid hc2
        have HO1 := Lib.hid ho1
        have HLO := Lib.hid hlo
        have hat31 : o.at_ ≤ 1000000000 := by have := ((codeO_chn HRT.out).at_lt o (List.mem_of_getElem? ho1)).2.1; omega
        have hnsl : ∀ t, (NS ++ o.ts.take t).length ≤ 1000000 := fun t => by
          have h1 := chn_targets (codeO_chn HRT.out) codeO_wide
          have h2 : codeO n l = (codeO n l).take k ++ (o :: (codeO n l).drop (k + 1)) := by rw [← drop_some ho1, List.take_append_drop]
          rw [h2, List.flatMap_append, hNS, List.flatMap_cons, List.length_append, List.length_append] at h1
          rw [List.length_append]
          have := List.length_take_le' t o.ts
          omega
        have htgt : ∀ tt ∈ o.ts, ¬ ((tt : Int) ≤ (o.at_ : Int)) := fun tt ht => by have := (codeO_ts HRT.out o (List.mem_of_getElem? ho1) tt ht).1; omega
        have HNS := Lib.hid hNS
        have HNSL := Lib.hid hnsl
        have HTGT := Lib.hid htgt
        have hkb : k ≤ 1000000 := by have := HOL.out; omega
        clear hm6 hNS hnsl htgt hX hI2 hot htb ha hen hgt hgt2 hgt3 hv hc2 ho1 ho hI hke hkW hsz hlo hnext hat hm
        gi_wp2_with (gi_at_mapUpdate; refine wpListIn_putB rfl _ _ _ rfl HM6.out rfl o.at_ rfl true rfl (by omega) (by omega) ?_; intro w7 hm7 hk7; have hK7 : Keep [w3.heap.size + 1, w3.heap.size + 3] W' w7 := ((Keep.refl [w3.heap.size + 1, w3.heap.size + 3] W').setCell (.inl (by simp)) _).same (hk7.mono (by simp)); have x9 : w7.cell? ⟨xb, 9, none⟩ = some (.slice TA o.ts.length tc) := (HX.out.keep hK7 (by simp; omega)).cell_eq rfl; have q5 : w7.cell? ⟨w3.heap.size, 0, none⟩ = some (.int .i64 (k : Int)) := (HI.out.cnt.keep hK7 (by simp)).cell_eq rfl; have f5 : w7.frozen? ⟨w3.heap.size, 0, none⟩ = false := (HI.out.cnt.keep hK7 (by simp)).frozen 0; have HM7 := Lib.hid hm7; have HK7 := Lib.hid hK7; have HA7 := Lib.hid ((show Blk (W'.setCell ⟨w3.heap.size + 1, 0, none⟩ (.int .i64 (o.nx : Int))) (w3.heap.size + 1) 3 #[.int .i64 (o.nx : Int)] from (by simpa using Blk.set_ HA.out 0 (.int .i64 (o.nx : Int)))).keep hk7 (by simp)); clear hm7 hk7 hK7)
        have hcnt : Blk (w7.setCell ⟨w3.heap.size, 0, none⟩ (.int .i64 ((k : Int) + 1))) w3.heap.size 3 #[.int .i64 ((k : Int) + 1)] := by simpa using Blk.set_ (HI.out.cnt.keep HK7.out (by simp)) 0 (.int .i64 ((k : Int) + 1))
        have hkS : Keep [w3.heap.size] w7 (w7.setCell ⟨w3.heap.size, 0, none⟩ (.int .i64 ((k : Int) + 1))) := (Keep.refl _ _).setCell (.inl (by simp)) _
        have hA2 := HA7.out.keep hkS (by simp)
        have hM2 := HM7.out.keep hkS (by simp)
        have hK2 : Keep [w3.heap.size, w3.heap.size + 1, w3.heap.size + 3] W' (w7.setCell ⟨w3.heap.size, 0, none⟩ (.int .i64 ((k : Int) + 1))) := (HK7.out.mono (by simp)).same (hkS.mono (by simp))
        generalize w7.setCell ⟨w3.heap.size, 0, none⟩ (.int .i64 ((k : Int) + 1)) = W2 at *
        have hX2 := HX.out.keep hK2 (by simp; omega)
        have hEN2 := HEN.out.keep hK2 (by simp)
        have hST2 := HI.out.st.keep hK2 (by simp)
        have hTB2 := HTB.out.keep hK2 (by simp)
        have hT2 := HT.out.keep hK2 (fun x hx hc => by have := (HT.out.lt x hx).1; have := HI.out.ge; have := HI.out.far; simp at hc; omega)
        have hRT2 := HRT3.out.keep hK2 (fun x hx hc => by have := HLO.out; have := HI.out.far; simp at hx; omega)
        have hz2 : hi ≤ W2.heap.size := Nat.le_trans HI.out.sz hK2.size
        have HX2 := Lib.hid hX2
        have HEN2 := Lib.hid hEN2
        have HST2 := Lib.hid hST2
        have HRT2 := Lib.hid hRT2
        have HA2 := Lib.hid hA2
        have HM2 := Lib.hid hM2
        have HK2 := Lib.hid hK2
        have HCNT := Lib.hid hcnt
        have HTB2 := Lib.hid hTB2
        have HT2 := Lib.hid hT2
        clear hcnt hkS hA2 hM2 hK2 hX2 hEN2 hST2 hTB2 hT2 hRT2 x9 q5 f5
        gi_loopw [59] (fun ix wr => ∃ (t : Nat) (tv' : Value) (bs : List Nat), t ≤ o.ts.length ∧ ix = .int .i64 (t : Int) ∧ (∀ x ∈ bs, x = w3.heap.size + 5 ∨ (hi ≤ x ∧ x ≠ xb)) ∧ Keep bs W2 wr ∧ Blk wr (w3.heap.size + 5) 30 #[tv'] ∧ OwnN wr hi tv' (NS ++ o.ts.take t)) (fun ix _ => o.ts.length - (intOf ix).toNat)
        case atStart => exact ⟨0, tv, [], Nat.zero_le _, rfl, by simp, Keep.refl _ _, HTB2.out, by simpa using HT2.out⟩
        case round =>
          obtain ⟨t, tv', bs, ht, rfl, hbs, hkr, htr, hor⟩ := hrel
          obtain ⟨TB', tcap', rfl⟩ := hor.form
          by_cases htl : t < o.ts.length
          · obtain ⟨tt, htt⟩ : ∃ tt, o.ts[t]? = some tt := ⟨_, List.getElem?_eq_getElem htl⟩
            have hrr := HRT2.out.keep hkr (fun x hx hc => by have := HLO.out; have := HI.out.far; have := hbs x hx; omega)
            obtain ⟨A', c', he, -, -, h3⟩ := hrr
            injection he with e1 _ e3
            subst e1; subst e3
            obtain ⟨tb, tf, rfl, -, -, hc⟩ := h3 (by omega)
            have k0 : wr.cell? ⟨tb, tf + t, none⟩ = some (.int .i64 (tt : Int)) := hc t _ (by rw [List.getElem?_map, htt]; rfl)
            have hng := HTGT.out tt (List.mem_of_getElem? htt)
            have hxn : xb ∉ bs := fun h => by have := hbs xb h; omega
            have hXr := HX2.out.keep hkr hxn
            have p0 : wr.cell? ⟨xb, 0, none⟩ = some (.int .i64 (o.at_ : Int)) := hXr.cell_eq rfl
            have hsz := HNSL.out t
            have htk : t ≤ 1000000 := by have := hsz; rw [List.length_append, List.length_take] at this; omega
            obtain ⟨nl, hnl⟩ : ∃ nl, (NS ++ o.ts.take t).length = nl := ⟨_, rfl⟩
            rw [hnl] at htr hsz
            have q9 : wr.cell? ⟨w3.heap.size + 5, 0, none⟩ = some (.slice TB' nl tcap') := htr.cell_eq rfl
            have hzr : hi ≤ wr.heap.size := Nat.le_trans hz2 hkr.size
            have hor' : OwnN wr hi (.slice TB' nl tcap') (NS ++ o.ts.take t) := by rw [← hnl]; exact hor
            have HOR := Lib.hid hor'
            have HTR := Lib.hid htr
            have HNL := Lib.hid hnl
            have HTT := Lib.hid htt
            have HBS := Lib.hid hbs
            have HKR := Lib.hid hkr
            have hXr' := hXr
            clear hor hor' htr hnl htt hbs hkr hc h3 hXr
            have HXR := Lib.hid hXr'
            have hn5 : w3.heap.size + 5 ∉ (Value.slice TB' nl tcap').ownBlock.toList := fun h => by have := (HOR.out.lt _ h).1; have := HI.out.ge; have := HI.out.far; omega
            have HN5 := Lib.hid hn5
            clear hn5 hXr'
            gi_wp2_with (gi_at_builtin; refine wpListIn_append_n rfl _ _ rfl rfl HOR.out tt rfl (by rw [HNL.out]; omega) hzr ?_; intro v8 w8 ho8 hk8; obtain ⟨TB8, tc8, rfl⟩ := ho8.form; obtain ⟨n8, hn8⟩ : ∃ n8, (NS ++ o.ts.take t ++ [tt]).length = n8 := ⟨_, rfl⟩; have h8 : OwnN w8 hi (.slice TB8 n8 tc8) (NS ++ o.ts.take t ++ [tt]) := (by rw [← hn8]; exact ho8); rw [hn8]; have f9 : w8.frozen? ⟨w3.heap.size + 5, 0, none⟩ = false := (HTR.out.keep hk8 HN5.out).frozen 0; have q10 : w8.cell? ⟨w3.heap.size + 5, 0, none⟩ = some (.slice TB' nl tcap') := (HTR.out.keep hk8 HN5.out).cell_eq rfl; have HO8 := Lib.hid h8; have HK8 := Lib.hid hk8; clear ho8 hk8 h8 hn8)
            go_roundw
            case rel =>
              refine ⟨t + 1, .slice TB8 n8 tc8, bs ++ ((Value.slice TB' nl tcap').ownBlock.toList ++ [w3.heap.size + 5]), htl, by go_num, fun x hx => ?_, ((HKR.out.mono (fun x hx => .inl (List.mem_append_left _ hx))).same (HK8.out.mono (fun x hx => .inl (List.mem_append_right _ (List.mem_append_left _ hx))))).setCell (.inl (by simp)) _, by simpa using Blk.set_ (HTR.out.keep HK8.out HN5.out) 0 (.slice TB8 n8 tc8), ?_⟩
              · rcases List.mem_append.1 hx with hx | hx
                · exact HBS.out x hx
                · rcases List.mem_append.1 hx with hx | hx
                  · refine .inr ⟨(HOR.out.lt x hx).1, fun e => own_blk_ne HOR.out HXR.out (by decide) ?_⟩
                    subst e
                    simpa using hx
                  · exact .inl (by simpa using hx)
              · rw [take_snoc HTT.out, ← List.append_assoc]
                exact HO8.out.keep (bs := [w3.heap.size + 5]) ((Keep.refl _ _).setCell (.inl (by simp)) _) (fun x hx hc => by have := (HO8.out.lt x hx).1; have := HI.out.ge; have := HI.out.far; simp at hc; omega)
            case measure => simp [intOf]; omega
          · obtain rfl : t = o.ts.length := by omega
            rw [List.take_length] at hor
            have hxn : xb ∉ bs := fun h => by have := hbs xb h; omega
            have hXr := HX2.out.keep hkr hxn
            have p0 : wr.cell? ⟨xb, 0, none⟩ = some (.int .i64 (o.at_ : Int)) := hXr.cell_eq rfl
            have p2 : wr.cell? ⟨xb, 2, none⟩ = some (.int .i64 (o.k : Int)) := hXr.cell_eq rfl
            have hb6 : ∀ j, j < 5 → w3.heap.size + j ∉ bs := fun j hj h => by have := hbs _ h; have := HI.out.ge; have := HI.out.far; omega
            have hcr := HCNT.out.keep hkr (hb6 0 (by omega))
            have har := HA2.out.keep hkr (hb6 1 (by omega))
            have her := HEN2.out.keep hkr (hb6 2 (by omega))
            have hmr := HM2.out.keep hkr (hb6 3 (by omega))
            have hsr := HST2.out.keep hkr (hb6 4 (by omega))
            have f7 := her.frozen 0
            obtain ⟨hke1, hke2⟩ := codeO_end HRT.out HO1.out
            have hfl : (codeO n l).take (k + 1) = (codeO n l).take k ++ [o] := take_snoc HO1.out
            have hown : OwnN wr hi (.slice TB' (NS ++ o.ts.take o.ts.length).length tcap') (((codeO n l).take (k + 1)).flatMap (·.ts)) := by
              rw [List.take_length, hfl, List.flatMap_append, HNS.out, List.flatMap_cons, List.flatMap_nil, List.append_nil]
              exact hor
            have hval : ∀ x ∈ (codeO n l).take (k + 1), valB (putB D o.at_ true) x.at_ = .lit (.bool true) := fun x hx => by
              rw [hfl] at hx
              rw [valB_put HMD.out]
              split
              · rfl
              · rcases List.mem_append.1 hx with hx | hx
                · exact HV.out x hx
                · rw [List.mem_singleton] at hx
                  subst hx
                  rename_i h
                  exact absurd rfl h
            have hkB : Keep (([w3.heap.size, w3.heap.size + 1, w3.heap.size + 3] : List Nat) ++ bs) W' wr := (HK2.out.mono (fun x hx => .inl (List.mem_append_left _ hx))).same (hkr.mono (fun x hx => .inl (List.mem_append_right _ hx)))
            have HKB := Lib.hid hkB
            have HCR := Lib.hid hcr
            have HAR := Lib.hid har
            have HER := Lib.hid her
            have HMR := Lib.hid hmr
            have HSR := Lib.hid hsr
            have HTR := Lib.hid htr
            have HOW := Lib.hid hown
            have HVAL := Lib.hid hval
            have HKE1 := Lib.hid hke1
            have HKE2 := Lib.hid hke2
            have HBS := Lib.hid hbs
            have hzr : hi ≤ wr.heap.size := Nat.le_trans hz2 hkr.size
            clear hkB hcr har her hmr hsr htr hown hval hke1 hke2 hbs hkr hor hfl hXr hb6 hxn
            have hbsF : ∀ x ∈ (([w3.heap.size, w3.heap.size + 1, w3.heap.size + 3] : List Nat) ++ bs) ++ [w3.heap.size + 2], (x ≠ w6.heap.size ∧ x ≠ w6.heap.size + 1 ∧ (x < lo ∨ hi ≤ x)) ∧ w3.heap.size ≤ x := fun x hx => by
              have h1 := HI.out.ge
              have h2 := HI.out.far
              have h3 := HLO.out
              rcases List.mem_append.1 hx with hx | hx
              · rcases List.mem_append.1 hx with hx | hx
                · simp at hx; omega
                · have := HBS.out x hx; omega
              · simp at hx; omega
            have HBSF := Lib.hid hbsF
            have p7 : wr.cell? ⟨w3.heap.size + 2, 0, none⟩ = some (.int .i64 (-1)) := HER.out.cell_eq rfl
            clear hbsF
            by_cases hk0 : o.k = 0
            · have e0 : ((o.k : Int) == 0) = true := by simp [hk0]
              have hlast := HKE1.out.1 hk0
              have hend := HKE2.out hk0
              have HL := Lib.hid hlast
              have HEQ := Lib.hid hend
              clear hk0 hlast hend
              gi_wp2
              have hks : Keep [w3.heap.size + 2] wr (wr.setCell ⟨w3.heap.size + 2, 0, none⟩ (.int .i64 (o.at_ : Int))) := (Keep.refl _ _).setCell (.inl (by simp)) _
              have hkF := (HKB.out.mono (fun x hx => .inl (List.mem_append_left [w3.heap.size + 2] hx))).same (hks.mono (fun x hx => .inl (List.mem_append_right (([w3.heap.size, w3.heap.size + 1, w3.heap.size + 3] : List Nat) ++ bs) hx)))
              have hen3 : Blk (wr.setCell ⟨w3.heap.size + 2, 0, none⟩ (.int .i64 (o.at_ : Int))) (w3.heap.size + 2) 3 #[.int .i64 (o.at_ : Int)] := by simpa using Blk.set_ HER.out 0 (.int .i64 (o.at_ : Int))
              refine ⟨KeepB.of hkF (fun x hx => (HBSF.out x hx).1), by omega, HCR.out.keep hks (by simp), ⟨o.nx, HAR.out.keep hks (by simp), HC2.out⟩, ?_, HSR.out.keep hks (by simp), ⟨_, HMR.out.keep hks (by simp), HVAL.out⟩, ⟨_, HTR.out.keep hks (by simp), HOW.out.keep hks (fun x hx hc => by have := (HOW.out.lt x hx).1; have := HI.out.ge; have := HI.out.far; simp at hc; omega)⟩, HI.out.ge, HI.out.far, Nat.le_trans hzr hks.size, HI.out.kp.trans hkF (fun x hx => .inr (HBSF.out x hx).2)⟩
              rw [if_pos HL.out, ← HEQ.out]
              exact hen3
            · have e0 : ((o.k : Int) == 0) = false := by simp; omega
              have hlast : ¬ (k + 1 = (codeO n l).length) := fun h => hk0 (HKE1.out.2 h)
              have HL := Lib.hid hlast
              clear hk0 hlast
              gi_wp2
              have hkF := HKB.out.mono (cs := (([w3.heap.size, w3.heap.size + 1, w3.heap.size + 3] : List Nat) ++ bs) ++ [w3.heap.size + 2]) (fun x hx => .inl (List.mem_append_left [w3.heap.size + 2] hx))
              refine ⟨KeepB.of hkF (fun x hx => (HBSF.out x hx).1), by omega, HCR.out, ⟨o.nx, HAR.out, HC2.out⟩, ?_, HSR.out, ⟨_, HMR.out, HVAL.out⟩, ⟨_, HTR.out, HOW.out⟩, HI.out.ge, HI.out.far, hzr, HI.out.kp.trans hkF (fun x hx => .inr (HBSF.out x hx).2)⟩
              rw [if_neg HL.out]
              exact HER.out
      case done =>
        intro lo hi xs W hS hI hD
        have hI : AhI w3 w6.heap.size (lenF n l) (codeO n l) hi xs.length W := hI
        have hxl : xs.length = (codeO n l).length := by rw [← hS, List.length_map]
        rw [hxl] at hI
        obtain ⟨tv, htb, hot⟩ := hI.tg
        obtain ⟨D, hm, hv⟩ := hI.mp
        rw [List.take_length] at hot hv
        have hen := hI.en
        rw [if_pos rfl] at hen
        have hnle := chn_targets (codeO_chn HRT.out) codeO_wide
        have htg : ∀ tt ∈ (codeO n l).flatMap (·.ts), valB D tt = .lit (.bool true) ∧ tt ≤ lenF n l := fun tt ht => by
          obtain ⟨o, ho, hto⟩ := List.mem_flatMap.1 ht
          obtain ⟨-, h2, x, hx, rfl⟩ := codeO_ts HRT.out o ho tt hto
          exact ⟨hv x hx, h2⟩
        obtain ⟨NS, hNS⟩ : ∃ NS, (codeO n l).flatMap (·.ts) = NS := ⟨_, rfl⟩
        rw [hNS] at hot hnle htg
        obtain ⟨TB, tcap, rfl⟩ := hot.form
        obtain ⟨nl, hnl⟩ : ∃ nl, NS.length = nl := ⟨_, rfl⟩
        rw [hnl] at htb hnle
        have hot2 : OwnN W hi (.slice TB nl tcap) NS := by rw [← hnl]; exact hot
        have q9 : W.cell? ⟨w3.heap.size + 5, 0, none⟩ = some (.slice TB nl tcap) := htb.cell_eq rfl
        have q7 : W.cell? ⟨w3.heap.size + 2, 0, none⟩ = some (.int .i64 (lenF n l : Nat)) := hen.cell_eq rfl
        have q8 : W.cell? ⟨w3.heap.size + 4, 0, none⟩ = some (.map (some (w3.heap.size + 3))) := hI.st.cell_eq rfl
        have q5 : W.cell? ⟨w3.heap.size, 0, none⟩ = some (.int .i64 ((codeO n l).length : Nat)) := hI.cnt.cell_eq rfl
        have HOT := Lib.hid hot2
        have HM := Lib.hid hm
        have HTG := Lib.hid htg
        have HI := Lib.hid hI
        have HNL := Lib.hid hnl
        clear hot hot2 hm hv htg hI hnl hNS hxl hS htb hen
        have hRD := HO3.out.reads.keep HI.out.kp
        have hBD := bound_any W B _ (codeF n l) (HE.out.keep (HK3.out.nil HI.out.kp) (by simp)) hRD (by omega) (small_code hdp hf) _ _ l HRD.out hne (codeO_next n l) (listR_ts (readF_some HRD.out).1)
        obtain ⟨hb1, hb2⟩ := bound_fine hne
        obtain ⟨mb, hmb⟩ : ∃ mb, boundF (codeO n l) = mb := ⟨_, rfl⟩
        obtain ⟨no, hno⟩ : ∃ no, (codeO n l).length = no := ⟨_, rfl⟩
        obtain ⟨z, hz⟩ : ∃ z, lenF n l = z := ⟨_, rfl⟩
        rw [hmb] at hBD hb1 hb2
        rw [hno] at hb2 q5
        rw [hz] at q7 hlf hnle
        have g1 : (1 : Int) ≤ (mb : Int) := by omega
        have g2 : (mb : Int) ≤ (no : Int) := by omega
        have g3 : (0 : Int) ≤ (z : Int) := by omega
        have hRW : Blk W w.heap.size 4 #[.bool false] := (HR3.out.keep HI.out.kp (by simp))
        have HRW := Lib.hid hRW
        have HBD := Lib.hid hBD
        have HD := Lib.hid hD
        have HZ := Lib.hid hz
        clear hRD hBD hb1 hb2 hmb hno hz hRW hD
        gi_wp2
        gi_loopw [79] (fun ix wr => ∃ t : Nat, t ≤ nl ∧ ix = .int .i64 (t : Int) ∧ wr = W) (fun ix _ => nl - (intOf ix).toNat)
        case atStart => exact ⟨0, Nat.zero_le _, rfl, rfl⟩
        case round =>
          obtain ⟨t, ht, rfl, rfl⟩ := hrel
          by_cases htl : t < nl
          · obtain ⟨tt, htt⟩ : ∃ tt, NS[t]? = some tt := ⟨_, List.getElem?_eq_getElem (by rw [HNL.out]; exact htl)⟩
            obtain ⟨tb, c', he, k0⟩ := HOT.out.at htt
            injection he with e1 _ e3
            subst e1; subst e3
            obtain ⟨hv1, hv2⟩ := HTG.out tt (List.mem_of_getElem? htt)
            rw [HZ.out] at hv2
            have hng : ¬ ((z : Int) < (tt : Int)) := by omega
            have HV1 := Lib.hid hv1
            clear hv1 htt
            gi_wp2_with (gi_at_lookup; refine wpListIn_getB rfl _ _ rfl HM.out rfl tt rfl (by omega) true HV1.out ?_)
            go_roundw
            case rel => exact ⟨t + 1, by have := HNL.out; omega, by go_num⟩
            case measure => simp [intOf]; omega
          · obtain rfl : t = nl := by omega
            gi_wp2_with (refine ⟨trivial, ?_⟩; gi_at_call 13; refine (callsIn_wide.2 HBD.out).mono ?_; rintro e w9 ⟨rfl, hk9⟩; have q79 : w9.cell? ⟨w3.heap.size + 2, 0, none⟩ = some (.int .i64 (z : Nat)) := (hk9.cell (p := ⟨w3.heap.size + 2, 0, none⟩) (by have := HI.out.far; have := HI.out.ge; have := HI.out.sz; simp; omega) (by simp)).trans q7; have q59 : w9.cell? ⟨w3.heap.size, 0, none⟩ = some (.int .i64 (no : Nat)) := (hk9.cell (p := ⟨w3.heap.size, 0, none⟩) (by have := HI.out.far; have := HI.out.ge; have := HI.out.sz; simp; omega) (by simp)).trans q5; have hR9 := HRW.out.keep hk9 (by simp); have b9 : w9.cell? ⟨w.heap.size, 0, none⟩ = some (.bool false) := hR9.cell_eq rfl; have z9 := hR9.frozen 0; have HR9 := Lib.hid hR9; have HK9 := Lib.hid hk9; clear hk9 hR9)
            have hs : Keep [w.heap.size] w9 (w9.setCell ⟨w.heap.size, 0, none⟩ (.bool true)) := (Keep.refl _ _).setCell (.inl (by simp)) _
            have hR10 : Blk (w9.setCell ⟨w.heap.size, 0, none⟩ (.bool true)) w.heap.size 4 #[.bool true] := by simpa using Blk.set_ HR9.out 0 (.bool true)
            have hw6 : w.heap.size < w6.heap.size := by have h1 := HR3.out.lt; have := HI.out.far; omega
            have hW6 : w6.heap.size < wr.heap.size := by have := HI.out.ge; have := HI.out.sz; omega
            have hD10 : (w9.setCell ⟨w.heap.size, 0, none⟩ (.bool true)).heap[w6.heap.size]? = some (.deferred (some [])) := (hs.block _ (Nat.lt_of_lt_of_le hW6 HK9.out.size) (by simp; omega)).trans ((HK9.out.block _ hW6 (by simp)).trans HD.out)
            have hK10 : Keep [] w (w9.setCell ⟨w.heap.size, 0, none⟩ (.bool true)) := ((HK3.out.nil HI.out.kp).nil HK9.out).trans hs (fun x hx => .inr (by simp at hx; omega))
            generalize w9.setCell ⟨w.heap.size, 0, none⟩ (.bool true) = W9 at *
            have hp := keep_putObj W9 w6.heap.size (.deferred none)
            have hK11 : Keep [] w (W9.putObj w6.heap.size (.deferred none)) := hK10.trans hp (fun x hx => .inr (by simp at hx; omega))
            have x3 : (W9.putObj w6.heap.size (.deferred none)).cell? ⟨w.heap.size, 0, none⟩ = some (.bool true) := (hR10.keep hp (by simp; omega)).cell_eq rfl
            refine ⟨by simp, .inl ⟨_, _, rfl, run_takeDeferred hD10, ?_⟩⟩
            refine ⟨.bool true, ?_, rfl, hK11⟩
            generalize W9.putObj w6.heap.size (.deferred none) = W10 at *
            simp [results, Tryz.results3, go_sem, x3]
      case stop => intro c lo hi pre W h _; exact h.elim
    · obtain ⟨er, hfe⟩ : ∃ er, (formF n l).2 = er := ⟨_, rfl⟩
      have HC1 : Hid (∀ W, Keep [] w W → Calls Tryz.prog 11 #[.slice A m cap] W fun e w' => e = .returned (.tuple #[.slice none 0 0, .int .i64 er]) ∧ Keep [] W w') := fun W hW => (HCO.out W hW).mono fun e w' h => by
        obtain ⟨h, hk⟩ := h
        rw [hfe] at h hf
        rcases h with h | h | h
        · exact ⟨h.2, hk⟩
        · exact absurd h.1 hf
        · exact absurd h.1 hf
      have her : (er != 0) = true := by rw [← hfe]; simpa using hf
      clear HCO hf hfe
      gi_wp2_with (first
        | (refine ⟨trivial, ?_⟩; gi_at_call 9; refine (callsIn_wide.2 HWK0.out).mono ?_; rintro e w1 ⟨rfl, hk1⟩; have HR1 := Lib.hid (HR0.out.keep hk1 (by simp)); have HK1 := Lib.hid (HK0.out.nil hk1); have HD1 := Lib.hid (HDP.out w1 HK1.out); clear hk1)
        | (refine ⟨trivial, ?_⟩; gi_at_call 10; refine (callsIn_wide.2 HD1.out).mono ?_; rintro e w2 ⟨rfl, hk2⟩; have HR2 := Lib.hid (HR1.out.keep hk2 (by simp)); have HK2 := Lib.hid (HK1.out.nil hk2); have HC2 := Lib.hid (HC1.out w2 HK2.out); clear hk2)
        | (refine ⟨trivial, ?_⟩; gi_at_call 11; refine (callsIn_wide.2 HC2.out).mono ?_; rintro e w3 ⟨rfl, hk3⟩; have hR3 := HR2.out.keep hk3 (by simp); have b3 : w3.cell? ⟨w.heap.size, 0, none⟩ = some (.bool false) := hR3.cell_eq rfl; have z3 := hR3.frozen 0; have HR3 := Lib.hid hR3; have HK3 := Lib.hid (HK2.out.nil hk3); clear hk3 hR3)
        | fail)
      have hs : Keep [w.heap.size] w3 (w3.setCell ⟨w.heap.size, 0, none⟩ (.bool true)) := (Keep.refl _ _).setCell (.inl (by simp)) _
      have hR4 : Blk (w3.setCell ⟨w.heap.size, 0, none⟩ (.bool true)) w.heap.size 4 #[.bool true] := by simpa using Blk.set_ HR3.out 0 (.bool true)
      have hK4 : Keep [] w (w3.setCell ⟨w.heap.size, 0, none⟩ (.bool true)) := HK3.out.trans hs (fun x hx => .inr (by simp at hx; omega))
      have x4 := hR4.cell_eq (i := 0) rfl
      clear b3 hs hR4
      generalize w3.setCell ⟨w.heap.size, 0, none⟩ (.bool true) = W4 at *
      refine ⟨.bool true, ?_, rfl, hK4⟩
      simp [results, Tryz.results3, go_sem, x4]
end Go.Proofs.YtmfoiceofhcicaaGreatDoor

namespace Go.Proofs.YtmfoiceofhcicaaGreatDoor.cahead
open Go.ChangeShapes Go.WideShapes Go.ChangeAt Go.RowKit

set_option maxRecDepth 100000 in
theorem contract (H : Type) (enc : TypeId × Value → H) (W : World) (base : Nat) (args : Array Value) (ds gs : List (DataW H)) (before : List MemPlace)
    (hval : ∀ (j : Nat) t v, Tryz.f3.params[j]? = some t → args[j]? = some v → Value.okWide Tryz.prog W .any base t v)
    (hW : DataW.Whole enc Tryz.prog Tryz.f3.params.toList Rows.codeAheadSpec.vars false W args.toList ds gs before)
    (hL : laidMetH Tryz.prog Rows.codeAheadUptoRow.laid W) (hsh : W.ShapedOpen Tryz.prog) (hk : Rows.uptoSmall H (ds ++ gs) = true) :
    Calls Tryz.prog 3 args W fun e W' => ∃ v, e = .returned v ∧ Rows.codeAheadSpec.post enc Tryz.prog Tryz.f3 false true false false W args v W' := by
  have hW' := hW
  obtain ⟨p, q, hA0, hV, rfl, hfz, hnd⟩ := hW
  have hA : DataW.TrodAll enc Tryz.prog W 0 (fun _ => true) true Tryz.f3.params.toList args.toList ds p := hA0
  have hA1 := hA
  rw [Tryz.params3] at hA hval
  obtain ⟨v0, vs0, d0, ds0, p0, q0, hargs, rfl, rfl, h0, r0⟩ := trodAll_cons hA
  obtain ⟨rfl, rfl, rfl⟩ := trodAll_nil r0
  obtain rfl : args = #[v0] := by cases args; simp_all
  obtain ⟨rfl, rfl⟩ := trodVars_none hV
  have hlt := fun x hx => hW'.lt x hx
  have g0 := h0
  have hbk : Rows.uptoBulk d0 ≤ 1048576 := by
    have h1 : Rows.uptoBulkAll ([d0] ++ []) ≤ 1048576 := by simpa [Rows.uptoSmall] using hk
    have h2 := up_at ([d0] ++ []) 0 d0 rfl
    omega
  obtain ⟨A, m, k, rfl⟩ := okWide_slice Tryz.underlying22 (hval 0 22 v0 rfl rfl)
  obtain ⟨fuel, hf⟩ := h0
  have hf2 : DataW.trod enc Tryz.prog W 0 (fun _ => true) true fuel 22 [.slice A m k] = some (d0, p0) := hf
  obtain ⟨l, hl, hb⟩ := open_parts 1048576 fuel (.slice A m k) _ hf2 hbk
  refine (law_ahead _ l (InW W) (.slice A m k) _ W (env_m hL hsh) hl (fun x hx => hx) (Nat.le_trans (hb _) (Nat.le_trans hbk (by omega)))).mono fun e W' ⟨he, hk⟩ => ?_
  subst he
  have hb := hk.toBelow
  have t0 := hb.trod laidOut (by kernel_rfl) (of_decide_eq_true (by kernel_rfl)) g0 (fun x hx => hlt x (by simp [hx]))
  exact ⟨_, rfl, _, _, _, [], _, [], hW', trodAll_cons_mk (shut_bool Tryz.underlying4 _) trodAll_mk0, trodAll_cons_mk t0 trodAll_mk0, rfl, hb.frame _, fun h => by cases h⟩

theorem reads (os : Os) {H : Type} (enc : TypeId × Value → H) : ∃ places, DataW.whole enc Tryz.prog ((laidWorld os).forCall (fun _ _ => 0) ⟨#[], #[.slice none 0 0], []⟩).memory Tryz.f3.params.toList Rows.codeAheadSpec.vars false #[.slice none 0 0].toList 8 = some ([.nil], [], places) :=
  ⟨[], by kernel_rfl⟩

set_option maxRecDepth 100000 in
theorem lifted (os : Os) (started : os.Started) (H : Type) (enc : TypeId × Value → H) (F : Stop.Interp) :
    ReturnsInHanded {} Tryz.checked os 3 .any ((Rows.OpenSpec.upto Rows.codeAheadSpec).preRow enc Tryz.prog Tryz.f3 Rows.codeAheadUptoRow.domain false Rows.codeAheadUptoRow.laid) (((Rows.OpenSpec.upto Rows.codeAheadSpec).at F).post enc Tryz.prog Tryz.f3 false true false false) := by
  obtain ⟨places, hx⟩ := reads os enc
  refine returnsInHanded_of_row (C := Tryz.checked) (s := Rows.OpenSpec.upto Rows.codeAheadSpec) own started (by kernel_rfl) Tryz.func3
    (witness_row_atRef (enc := enc) (C := Tryz.checked) false (laidWorld os) #[.slice none 0 0] rfl (by kernel_rfl) (by kernel_rfl) (by kernel_rfl)
      (OpenSpec.preRow_of_cond 8 hx (by kernel_rfl) (fun k hk => by cases hk; kernel_rfl) (by kernel_rfl) (laid_met os _))) ?_
  intro W base args ds gs before hval hW _ hcond _ hL hsh _
  exact contract H enc W base args ds gs before hval hW hL hsh (hcond _ rfl)

theorem said : Rows.CodeAheadUptoSaid :=
  OpenClaim.holds_of_cond 3 Tryz.f3 rfl rfl rfl rfl rfl rfl rfl ⟨rfl, rfl, rfl, rfl, rfl⟩ rfl rfl rfl rfl rfl (by kernel_rfl) Tryz.func3 (by kernel_rfl)
    (of_decide_eq_true (by kernel_rfl)) (by unfold Func.isWrapper; first | (rw [if_pos (by decide +kernel)]; kernel_rfl) | (rw [if_neg (by decide +kernel)]; exact ⟨rfl, rfl⟩))
    (fun os started H enc _ F => by rw [OpenClaim.pre_eq_preRow]; exact lifted os started H enc F)
theorem plain (f : FuncId) (fn : Func) (hf : Tryz.pinned.checked.prog.funcNamed "vernacular/vernacularlaw20.CodeAhead" = some f) (hfn : Tryz.pinned.checked.prog.funcs[f]? = some fn) :
    true = Tryz.pinned.checked.prog.looks [] ∧ ∀ (j : Nat) t, fn.params[j]? = some t → Tryz.pinned.checked.prog.wantsStandIn t = false := by
  obtain rfl : f = 3 := Option.some.inj ((show Tryz.prog.funcNamed "vernacular/vernacularlaw20.CodeAhead" = some 3 by kernel_rfl).symm.trans hf) |>.symm
  obtain rfl : fn = Tryz.f3 := (Option.some.inj (Tryz.func3.symm.trans hfn)).symm
  refine ⟨by kernel_rfl, fun j t ht => ?_⟩
  rw [Tryz.params3] at ht
  have hm := Array.mem_of_getElem? ht
  have ht2 : t = 22 := by simpa using hm
  subst ht2
  exact (show Tryz.prog.wantsStandIn 22 = false by kernel_rfl)
theorem card : Rows.CodeAheadUptoCardSaid :=
  Claim7.holds_tied_plain_at .later [] _ _ _ _ said (fun _ h => by cases h) (by kernel_rfl) (fun _ h => by cases h) codeAheadUpto_row_tie rfl ⟨rfl, rfl⟩ (by kernel_rfl) rfl plain (by kernel_rfl)
end Go.Proofs.YtmfoiceofhcicaaGreatDoor.cahead
