/- Plain: the code of a message, read back, is its texts and its instructions, and these say the message. No walk. -/
import Derived.Test.YtmfoiceofhcicaaGreatDoorKB
namespace Go.Proofs.YtmfoiceofhcicaaGreatDoor
open Go.RowKit

section
variable {b W : List UInt8} {P : List ByteArray} {z : Nat}
theorem opsR_one {f p p' : Nat} {acc : List OT} {c : UInt8} {o : OT} (hb : b[p]? = some c) (ho : opR b P z (p - z) c.toNat ⟨p + 1, false⟩ = (o, true, ⟨p', false⟩)) : opsR b P z (f + 1) acc p = opsR b P z f (acc ++ [o]) p' := by
  rw [opsR, hb]
  show (if (opR b P z (p - z) c.toNat ⟨p + 1, false⟩).2.1 && !(opR b P z (p - z) c.toNat ⟨p + 1, false⟩).2.2.e then _ else _) = _
  rw [ho]
  rfl
theorem plain_k {p : PT} {h : Bool} (hp : plainB p h = true) : p.k = 1 ∨ p.k = 2 ∨ p.k = 3 ∨ p.k = 4 ∨ p.k = 5 ∨ p.k = 6 := by
  unfold plainB at hp
  by_cases h1 : p.k = 1
  · exact .inl h1
  · by_cases h2 : p.k = 2
    · exact .inr (.inl h2)
    · by_cases h3 : p.k = 3
      · exact .inr (.inr (.inl h3))
      · by_cases h4 : p.k = 4 ∨ p.k = 5 ∨ p.k = 6
        · exact .inr (.inr (.inr h4))
        · rw [if_neg h1, if_neg h2, if_neg h3, if_neg h4] at hp
          cases hp
theorem plain_t1 {p : PT} {h : Bool} (hp : plainB p h = true) (hk : p.k = 1) : p = textP p.tx := by
  unfold plainB at hp
  rw [if_pos hk] at hp
  simp only [Bool.and_eq_true, decide_eq_true_iff] at hp
  obtain ⟨⟨⟨⟨⟨⟨a1, a2⟩, a3⟩, a4⟩, a5⟩, a6⟩, a7⟩ := hp
  obtain ⟨k, tx, nm, ty, st, off, cs⟩ := p
  simp only at hk a3 a4 a5 a6 a7
  rw [hk, noB_nil a4, noB_nil a5, noB_nil a6, a7, List.eq_nil_of_length_eq_zero a3]
  rfl
theorem plain_t2 {p : PT} {h : Bool} (hp : plainB p h = true) (hk : p.k = 2) : p = hashP ∧ h = true := by
  unfold plainB at hp
  rw [if_neg (by omega), if_pos hk] at hp
  simp only [Bool.and_eq_true, decide_eq_true_iff] at hp
  obtain ⟨⟨⟨⟨⟨⟨a1, a2⟩, a3⟩, a4⟩, a5⟩, a6⟩, a7⟩ := hp
  obtain ⟨k, tx, nm, ty, st, off, cs⟩ := p
  simp only at hk a2 a3 a4 a5 a6 a7
  rw [hk, noB_nil a3, noB_nil a4, noB_nil a5, noB_nil a6, a7, List.eq_nil_of_length_eq_zero a2]
  exact ⟨rfl, a1⟩
theorem plain_t3 {p : PT} {h : Bool} (hp : plainB p h = true) (hk : p.k = 3) : p = ⟨3, ⟨#[]⟩, p.nm, p.ty, p.st, 0, []⟩ := by
  unfold plainB at hp
  rw [if_neg (by omega), if_neg (by omega), if_pos hk] at hp
  simp only [Bool.and_eq_true, decide_eq_true_iff] at hp
  obtain ⟨⟨⟨⟨⟨a1, a2⟩, a3⟩, a4⟩, a5⟩, a6⟩ := hp
  obtain ⟨k, tx, nm, ty, st, off, cs⟩ := p
  simp only at hk a4 a5 a6
  rw [hk, noB_nil a5, a6, List.eq_nil_of_length_eq_zero a4]
theorem plain_t4 {p : PT} {h : Bool} (hp : plainB p h = true) (hk : p.k = 4 ∨ p.k = 5 ∨ p.k = 6) : p = ⟨p.k, ⟨#[]⟩, p.nm, ⟨#[]⟩, ⟨#[]⟩, p.off, p.cs⟩ ∧ 0 ≤ p.off ∧ p.off ≤ 999999999 := by
  unfold plainB at hp
  rw [if_neg (by omega), if_neg (by omega), if_neg (by omega), if_pos hk] at hp
  simp only [Bool.and_eq_true, decide_eq_true_iff] at hp
  obtain ⟨⟨⟨⟨⟨⟨⟨a1, a2⟩, a3⟩, a4⟩, a5⟩, a6⟩, a7⟩, a8⟩ := hp
  obtain ⟨k, tx, nm, ty, st, off, cs⟩ := p
  simp only at hk a1 a2 a6 a7 a8
  rw [noB_nil a6, noB_nil a7, noB_nil a8]
  exact ⟨rfl, a1, a2⟩

/-- Where the instructions of parts stand they are read. -/
def OpsAt (b : List UInt8) (P : List ByteArray) (z n : Nat) : Prop := ∀ (l : List PT) (h : Bool) (q : InP) (a f : Nat) (acc : List OT) (W : List UInt8), rightF n l h = true → (∀ t ∈ textF n l, t ∈ P) → (h = true → q.1 ∈ P) → 0 ≤ q.2 → q.2 ≤ 999999999 → a + lenF n l < 4294967296 → bulkF n l ≤ 60000 →
  AtL b (z + a) (codF P n q a l ++ W) → opsR b P z (f + (opF n q a l).length) acc (z + a) = opsR b P z f (acc ++ opF n q a l) (z + a + lenF n l)
theorem body_at {n : Nat} (hP : P.length < 65536) (ih : OpsAt b P z n) {k : Int} {h : Bool} (q : InP) (zz : Nat) (hz : zz < 4294967296) (hq : h = true → q.1 ∈ P) (hq0 : 0 ≤ q.2) (hq1 : q.2 ≤ 999999999) : ∀ (cs : List CT) (ks : List ByteArray) (a f : Nat) (acc : List OT) (W : List UInt8),
    caseR (fun m => rightF n m h) k ks cs = true → (∀ t ∈ caseT (textF n) cs, t ∈ P) → a + lenC (lenF n) cs < 4294967296 → bulkC (bulkF n) cs ≤ 60000 → AtL b (z + a) (bodyC (codF P n q) (lenF n) zz a cs ++ W) →
    opsR b P z (f + (bodyO (opF n q) (lenF n) zz a cs).length) acc (z + a) = opsR b P z f (acc ++ bodyO (opF n q) (lenF n) zz a cs) (z + a + lenC (lenF n) cs)
  | [], ks, a, f, acc, W, _, _, _, _, _ => by simp [bodyO, lenC]
  | c :: cs, ks, a, f, acc, W, hr, ht, ha, hb, hA => by
    simp only [caseR, Bool.and_eq_true] at hr
    simp only [caseT, List.mem_cons, List.mem_append] at ht
    simp only [lenC] at ha
    simp only [bulkC] at hb
    simp only [bodyC, List.append_assoc, List.cons_append, List.nil_append] at hA
    have h1 := ih c.2 h q a (f + (bodyO (opF n q) (lenF n) zz (a + lenF n c.2 + 5) cs).length + 1) acc _ hr.1.2 (fun t hx => ht t (.inr (.inl hx))) hq hq0 hq1 (by omega) (by omega) hA
    have hA2 := hA.move
    rw [codF_len] at hA2
    have hA3 := hA2.m1
    have h3 := hA3.n32 hz
    have hA4 := hA3.m32
    have e1 : z + a + lenF n c.2 + 1 + 4 = z + (a + lenF n c.2 + 5) := by omega
    have h2 := body_at hP ih q zz hz hq hq0 hq1 cs _ (a + lenF n c.2 + 5) f (acc ++ opF n q a c.2 ++ [{ opE with at_ := a + lenF n c.2, nx := a + lenF n c.2 + 5, k := 7, ts := [zz] }]) W hr.2 (fun t hx => ht t (.inr (.inr hx))) (by omega) (by omega) (by rw [← e1]; exact hA4)
    have ho : opR b P z (z + a + lenF n c.2 - z) (7 : UInt8).toNat ⟨z + a + lenF n c.2 + 1, false⟩ = ({ opE with at_ := a + lenF n c.2, nx := a + lenF n c.2 + 5, k := 7, ts := [zz] }, true, ⟨z + (a + lenF n c.2 + 5), false⟩) := by
      unfold opR
      rw [if_neg (by decide), if_neg (by decide), if_neg (by decide), if_neg (by decide), if_neg (by decide), if_pos (by decide), h3]
      simp only [opE]
      rw [show z + a + lenF n c.2 - z = a + lenF n c.2 by omega, e1, show z + (a + lenF n c.2 + 5) - z = a + lenF n c.2 + 5 by omega]
    simp only [bodyO, List.length_append, List.length_cons, lenC]
    rw [show f + ((opF n q a c.2).length + ((bodyO (opF n q) (lenF n) zz (a + lenF n c.2 + 5) cs).length + 1)) = f + (bodyO (opF n q) (lenF n) zz (a + lenF n c.2 + 5) cs).length + 1 + (opF n q a c.2).length by omega, h1, opsR_one hA2.byte ho, h2]
    simp only [List.append_assoc, List.cons_append, List.nil_append]
    rw [show z + (a + lenF n c.2 + 5) + lenC (lenF n) cs = z + a + (lenF n c.2 + 5 + lenC (lenF n) cs) by omega]
theorem parts_opsAt {n : Nat} (hP : P.length < 65536) (ih : OpsAt b P z n) {h : Bool} (q : InP) (hq : h = true → q.1 ∈ P) (hq0 : 0 ≤ q.2) (hq1 : q.2 ≤ 999999999) : ∀ (l : List PT) (kk : Int) (a f : Nat) (acc : List OT) (W : List UInt8),
    rightL (rightF n) h kk l = true → (∀ t ∈ textL (textF n) l, t ∈ P) → a + lenL (lenF n) l < 4294967296 → bulkL (bulkF n) l ≤ 60000 → AtL b (z + a) (codL P (codF P n) (lenF n) q a l ++ W) →
    opsR b P z (f + (opL (opF n) (lenF n) q a l).length) acc (z + a) = opsR b P z f (acc ++ opL (opF n) (lenF n) q a l) (z + a + lenL (lenF n) l)
  | [], kk, a, f, acc, W, _, _, _, _, _ => by simp [opL, lenL]
  | p :: l, kk, a, f, acc, W, hr, ht, ha, hb, hA => by
    simp only [rightL, Bool.and_eq_true] at hr
    obtain ⟨⟨⟨⟨hp, _⟩, hcs⟩, _⟩, hrl⟩ := hr
    simp only [textL, List.mem_append] at ht
    simp only [lenL] at ha
    simp only [bulkL] at hb
    simp only [codL, List.append_assoc] at hA
    have hA2 := hA.move
    rw [codP_len (codF_len P n)] at hA2
    have ih2 := fun acc' => parts_opsAt hP ih q hq hq0 hq1 l p.k (a + lenP (lenF n) p) f acc' W hrl (fun t hx => ht t (.inr hx)) (by omega) (by omega) (by rw [← Nat.add_assoc]; exact hA2)
    simp only [opL, List.length_append, lenL]
    have goal : opsR b P z (f + (opL (opF n) (lenF n) q (a + lenP (lenF n) p) l).length + (opP (opF n) (lenF n) q a p).length) acc (z + a) = opsR b P z (f + (opL (opF n) (lenF n) q (a + lenP (lenF n) p) l).length) (acc ++ opP (opF n) (lenF n) q a p) (z + (a + lenP (lenF n) p)) := by
      generalize f + (opL (opF n) (lenF n) q (a + lenP (lenF n) p) l).length = F
      have hpt : ∀ t ∈ partT (textF n) p, t ∈ P := fun t hx => ht t (.inl hx)
      clear ih2 hA2 ht hrl
      unfold codP at hA
      unfold partT at hpt
      unfold opP lenP
      unfold lenP at ha
      by_cases h1 : p.k = 1
      · rw [if_pos h1] at hA hpt ⊢
        simp only [List.cons_append] at hA
        rw [if_pos h1]
        refine opsR_one hA.byte ?_
        have ht1 := txR_at false hA.m1 (hpt _ (by simp)) hP
        unfold opR
        rw [if_neg (by decide), if_pos (by decide)]
        simp only [ht1, opE]
        rw [show z + a - z = a by omega, show z + a + 1 + 2 - z = a + 3 by omega, show z + a + 1 + 2 = z + (a + 3) by omega]
      · rw [if_neg h1] at hA hpt ⊢
        rw [if_neg h1]
        by_cases h2 : p.k = 2
        · have hh := (plain_t2 hp h2).2
          rw [if_pos h2] at hA ⊢
          rw [if_pos h2]
          simp only [List.cons_append, List.append_assoc] at hA
          refine opsR_one hA.byte ?_
          have ht1 := txR_at false hA.m1 (hq hh) hP
          have ht2 := hA.m1.m16.n32 (by omega)
          unfold opR
          rw [if_neg (by decide), if_neg (by decide), if_pos (by decide)]
          simp only [ht1, ht2, opE]
          rw [show z + a - z = a by omega, show z + a + 1 + 2 + 4 - z = a + 7 by omega, show z + a + 1 + 2 + 4 = z + (a + 7) by omega]
        · rw [if_neg h2] at hA hpt ⊢
          rw [if_neg h2]
          by_cases h3 : p.k = 3
          · rw [if_pos h3] at hA hpt ⊢
            rw [if_pos h3]
            simp only [List.cons_append, List.append_assoc] at hA
            refine opsR_one hA.byte ?_
            have ht1 := txR_at false hA.m1 (hpt _ (by simp)) hP
            have ht2 := txR_opt hA.m1.m16 (fun hn => hpt _ (by simp [optT, hn])) hP
            have ht3 := txR_opt hA.m1.m16.m16 (fun hn => hpt _ (by simp [optT, hn])) hP
            unfold opR
            rw [if_neg (by decide), if_neg (by decide), if_neg (by decide), if_pos (by decide)]
            simp only [ht1, ht2, ht3, opE]
            rw [show z + a - z = a by omega, show z + a + 1 + 2 + 2 + 2 - z = a + 7 by omega, show z + a + 1 + 2 + 2 + 2 = z + (a + 7) by omega]
            rfl
          · rw [if_neg h3] at hA hpt ⊢
            rw [if_neg h3]
            rw [if_neg h1, if_neg h2, if_neg h3] at ha
            have h4 : p.k = 4 ∨ p.k = 5 ∨ p.k = 6 := by
              rcases plain_k hp with h | h | h | h
              · exact absurd h h1
              · exact absurd h h2
              · exact absurd h h3
              · exact h
            obtain ⟨_, hf0, hf1⟩ := plain_t4 hp h4
            simp only [List.cons_append, List.append_assoc] at hA
            have hcl := bulkC_len (bulkF n) p.cs
            have ht1 := txR_at false hA.m1 (hpt _ (by simp)) hP
            have ht2 := hA.m1.m16.n32 (by omega)
            have ht3 := hA.m1.m16.m32.n16 (by omega)
            have hA5 := hA.m1.m16.m32.m16
            have ht4 := keyR_at hP p.cs [] [] (a + 9 + 6 * p.cs.length) _ (fun c hc => hpt _ (List.mem_cons_of_mem _ (caseT_key hc))) (by omega) hA5
            have hA6 := hA5.move
            rw [headC_len] at hA6
            have hkn : (UInt8.ofNat p.k.toNat).toNat = p.k.toNat := by rcases h4 with h | h | h <;> rw [h] <;> rfl
            have ho : opR b P z (z + a - z) (UInt8.ofNat p.k.toNat).toNat ⟨z + a + 1, false⟩ = ({ opE with at_ := a, nx := a + 9 + 6 * p.cs.length, k := p.k.toNat, nm := p.nm, off := p.off.toNat, ks := p.cs.map Prod.fst, ts := startC (lenF n) (a + 9 + 6 * p.cs.length) p.cs }, true, ⟨z + (a + 9 + 6 * p.cs.length), false⟩) := by
              unfold opR
              rw [hkn, if_neg (by omega), if_neg (by omega), if_neg (by omega), if_neg (by omega), if_pos (by omega)]
              simp only [ht1, ht2, ht3, ht4, opE, List.nil_append]
              rw [show z + a - z = a by omega, show z + a + 1 + 2 + 4 + 2 + 6 * p.cs.length - z = a + 9 + 6 * p.cs.length by omega, show z + a + 1 + 2 + 4 + 2 + 6 * p.cs.length = z + (a + 9 + 6 * p.cs.length) by omega]
            have hq' : (decide (p.k ≠ 4) = true → (inQ q p).1 ∈ P) := fun hd => by
              unfold inQ
              rw [if_neg (by simpa using hd)]
              exact hpt _ (by simp)
            have hq2 : 0 ≤ (inQ q p).2 ∧ (inQ q p).2 ≤ 999999999 := by
              unfold inQ
              split
              · exact ⟨hq0, hq1⟩
              · exact ⟨hf0, hf1⟩
            have hB := body_at hP ih (inQ q p) (a + (9 + 6 * p.cs.length + lenC (lenF n) p.cs)) (by omega) hq' hq2.1 hq2.2 p.cs [] (a + 9 + 6 * p.cs.length) F (acc ++ [{ opE with at_ := a, nx := a + 9 + 6 * p.cs.length, k := p.k.toNat, nm := p.nm, off := p.off.toNat, ks := p.cs.map Prod.fst, ts := startC (lenF n) (a + 9 + 6 * p.cs.length) p.cs }]) (codL P (codF P n) (lenF n) q (a + lenP (lenF n) p) l ++ W) hcs (fun t hx => hpt t (List.mem_cons_of_mem _ hx)) (by omega) (by omega) ?_
            · rw [List.length_cons, ← Nat.add_assoc, opsR_one hA.byte ho, hB]
              simp only [List.append_assoc, List.cons_append, List.nil_append]
              rw [show z + (a + 9 + 6 * p.cs.length) + lenC (lenF n) p.cs = z + (a + (9 + 6 * p.cs.length + lenC (lenF n) p.cs)) by omega]
            · have e : z + a + 1 + 2 + 4 + 2 + 6 * p.cs.length = z + (a + 9 + 6 * p.cs.length) := by omega
              rw [e] at hA6
              have el : lenP (lenF n) p = 9 + 6 * p.cs.length + lenC (lenF n) p.cs := by unfold lenP; rw [if_neg h1, if_neg h2, if_neg h3]
              rw [el] at hA6 ⊢
              exact hA6
    rw [show f + ((opP (opF n) (lenF n) q a p).length + (opL (opF n) (lenF n) q (a + lenP (lenF n) p) l).length) = f + (opL (opF n) (lenF n) q (a + lenP (lenF n) p) l).length + (opP (opF n) (lenF n) q a p).length by omega, goal, ih2]
    simp only [List.append_assoc]
    rw [show z + (a + lenP (lenF n) p) + lenL (lenF n) l = z + a + (lenP (lenF n) p + lenL (lenF n) l) by omega]
theorem ops_at (hP : P.length < 65536) : ∀ n, OpsAt b P z n
  | 0 => fun _ _ _ _ _ _ _ h => by cases h
  | n + 1 => fun l _ q a f acc W hr ht hq hq0 hq1 ha hb hA => parts_opsAt hP (ops_at hP n) q hq hq0 hq1 l 0 a f acc W hr ht ha hb hA
end
end Go.Proofs.YtmfoiceofhcicaaGreatDoor
