/- Plain: a message's code says that message. No walk. -/
import Derived.Test.YtmfoiceofhcicaaGreatDoorKC
namespace Go.Proofs.YtmfoiceofhcicaaGreatDoor
open Go.RowKit

theorem mostC_le1 {D : List PT → Nat} : ∀ (cs : List CT) (m b : Nat), mostC D m cs ≤ b → m ≤ b ∧ ∀ c ∈ cs, 1 + D c.2 ≤ b
  | [], m, b, h => ⟨h, fun c hc => by simp at hc⟩
  | c :: cs, m, b, h => by
    have ⟨h1, h2⟩ := mostC_le1 cs _ b (show mostC D (max m (1 + D c.2)) cs ≤ b from h)
    refine ⟨by omega, fun x hx => ?_⟩
    rcases List.mem_cons.1 hx with rfl | hx
    · omega
    · exact h2 x hx
theorem mostL_le1 {D : List PT → Nat} : ∀ (l : List PT) (m b : Nat), mostL D m l ≤ b → m ≤ b ∧ ∀ p ∈ l, ∀ c ∈ casesP p, 1 + D c.2 ≤ b
  | [], m, b, h => ⟨h, fun c hc => by simp at hc⟩
  | p :: l, m, b, h => by
    have ⟨h1, h2⟩ := mostL_le1 l _ b (show mostL D (mostC D m (casesP p)) l ≤ b from h)
    have ⟨h3, h4⟩ := mostC_le1 _ _ _ h1
    refine ⟨h3, fun x hx => ?_⟩
    rcases List.mem_cons.1 hx with rfl | hx
    · exact h4
    · exact h2 x hx
theorem get_mid {α : Type} (X : List α) (o : α) (Y : List α) : (X ++ o :: Y)[X.length]? = some o := by
  rw [List.getElem?_append_right (Nat.le_refl _), Nat.sub_self]; rfl
def LiftAt (n : Nat) : Prop := ∀ (l : List PT) (h : Bool) (q : InP) (a nest f : Nat) (ops X : List OT) (j : OT) (Y : List OT), rightF n l h = true → depthF n l ≤ nest → (j.k = 7 ∨ j.k = 0) → (opF n q a l).length < f → ops = X ++ (opF n q a l ++ j :: Y) →
  liftF ops f nest X.length [] = some (l, X.length + (opF n q a l).length)
theorem cas_at {n : Nat} (ih : LiftAt n) {k : Int} {h : Bool} (q : InP) (zz nest f : Nat) (ops : List OT) : ∀ (cs : List CT) (ks : List ByteArray) (a i : Nat) (acc : List CT) (X R : List OT), caseR (fun m => rightF n m h) k ks cs = true → (∀ c ∈ cs, depthF n c.2 ≤ nest) → (bodyO (opF n q) (lenF n) zz a cs).length ≤ f →
    ops = X ++ (bodyO (opF n q) (lenF n) zz a cs ++ R) → i + 1 = X.length → casL ops (fun j => liftF ops f nest j []) (cs.map Prod.fst) i acc = some (acc ++ cs, i + (bodyO (opF n q) (lenF n) zz a cs).length)
  | [], ks, a, i, acc, X, R, _, _, _, _, _ => by simp [casL, bodyO]
  | c :: cs, ks, a, i, acc, X, R, hr, hd, hf, ho, hi => by
    simp only [caseR, Bool.and_eq_true] at hr
    simp only [bodyO, List.length_append, List.length_cons] at hf ⊢
    simp only [bodyO, List.append_assoc, List.cons_append] at ho
    have h1 := ih c.2 h q a nest f ops X { opE with at_ := a + lenF n c.2, nx := a + lenF n c.2 + 5, k := 7, ts := [zz] } _ hr.1.2 (hd c (List.mem_cons_self ..)) (.inl rfl) (by omega) ho
    have hg : (ops[X.length + (opF n q a c.2).length]?.map OT.k) = some 7 := by
      have := get_mid (X ++ opF n q a c.2) { opE with at_ := a + lenF n c.2, nx := a + lenF n c.2 + 5, k := 7, ts := [zz] } (bodyO (opF n q) (lenF n) zz (a + lenF n c.2 + 5) cs ++ R)
      rw [List.length_append, List.append_assoc, ← ho] at this
      rw [this]
      rfl
    have h2 := cas_at ih q zz nest f ops cs _ (a + lenF n c.2 + 5) (X.length + (opF n q a c.2).length) (acc ++ [(c.1, c.2)]) (X ++ opF n q a c.2 ++ [{ opE with at_ := a + lenF n c.2, nx := a + lenF n c.2 + 5, k := 7, ts := [zz] }]) R hr.2 (fun x hx => hd x (List.mem_cons_of_mem _ hx)) (by omega) (by rw [ho]; simp only [List.append_assoc, List.cons_append, List.nil_append]) (by simp only [List.length_append, List.length_cons, List.length_nil])
    rw [List.map_cons]
    unfold casL
    rw [hi, h1]
    show (if _ = some 7 then _ else _) = _
    rw [if_pos hg, h2]
    simp only [List.append_assoc, List.cons_append, List.nil_append]
    rw [show X.length + (opF n q a c.2).length + (bodyO (opF n q) (lenF n) zz (a + lenF n c.2 + 5) cs).length = i + ((opF n q a c.2).length + ((bodyO (opF n q) (lenF n) zz (a + lenF n c.2 + 5) cs).length + 1)) by omega]
theorem parts_lift {n : Nat} (ih : LiftAt n) {h : Bool} (q : InP) (nest : Nat) (ops : List OT) (j : OT) (hj : j.k = 7 ∨ j.k = 0) : ∀ (l : List PT) (kk : Int) (a f : Nat) (acc : List PT) (X Y : List OT), rightL (rightF n) h kk l = true → (∀ p ∈ l, ∀ c ∈ casesP p, 1 + depthF n c.2 ≤ nest) → (opL (opF n) (lenF n) q a l).length < f →
    ops = X ++ (opL (opF n) (lenF n) q a l ++ j :: Y) → liftF ops f nest X.length acc = some (acc ++ l, X.length + (opL (opF n) (lenF n) q a l).length)
  | [], kk, a, 0, acc, X, Y, _, _, hf, _ => absurd hf (by omega)
  | p :: l, kk, a, 0, acc, X, Y, _, _, hf, _ => absurd hf (by omega)
  | [], kk, a, f + 1, acc, X, Y, _, _, _, ho => by
    have hg : ops[X.length]? = some j := by rw [ho]; exact get_mid X j Y
    unfold liftF
    rw [hg]
    show (if j.k = 1 then _ else _) = _
    rw [if_neg (by omega), if_neg (by omega), if_neg (by omega), if_pos hj]
    simp [opL]
  | p :: l, kk, a, f + 1, acc, X, Y, hr, hd, hf, ho => by
    simp only [rightL, Bool.and_eq_true] at hr
    obtain ⟨⟨⟨⟨hp, _⟩, hcs⟩, _⟩, hrl⟩ := hr
    simp only [opL, List.length_append] at hf ⊢
    simp only [opL, List.append_assoc] at ho
    have ih2 := fun f' acc' X' hf' ho' => parts_lift ih q nest ops j hj l p.k (a + lenP (lenF n) p) f' acc' X' Y hrl (fun x hx => hd x (List.mem_cons_of_mem _ hx)) hf' ho'
    have one : ∀ o : OT, opP (opF n) (lenF n) q a p = [o] → (liftF ops (f + 1) nest X.length acc = liftF ops f nest (X.length + 1) (acc ++ [p])) → liftF ops (f + 1) nest X.length acc = some (acc ++ p :: l, X.length + ((opP (opF n) (lenF n) q a p).length + (opL (opF n) (lenF n) q (a + lenP (lenF n) p) l).length)) := fun o he hl => by
      rw [he] at ho hf ⊢
      have := ih2 f (acc ++ [p]) (X ++ [o]) (by simp only [List.length_cons, List.length_nil] at hf; omega) (by rw [ho]; simp only [List.append_assoc, List.cons_append, List.nil_append])
      rw [List.length_append, List.length_cons, List.length_nil] at this
      rw [hl, this]
      simp only [List.append_assoc, List.cons_append, List.nil_append, List.length_cons, List.length_nil]
      rw [show X.length + (0 + 1) + (opL (opF n) (lenF n) q (a + lenP (lenF n) p) l).length = X.length + (0 + 1 + (opL (opF n) (lenF n) q (a + lenP (lenF n) p) l).length) by omega]
    by_cases h1 : p.k = 1
    · have he : opP (opF n) (lenF n) q a p = [{ opE with at_ := a, nx := a + 3, k := 1, tx := p.tx }] := by unfold opP; rw [if_pos h1]
      refine one _ he ?_
      have hg : ops[X.length]? = some { opE with at_ := a, nx := a + 3, k := 1, tx := p.tx } := by rw [ho, he]; exact get_mid X _ _
      rw [liftF, hg]
      show (if (1 : Nat) = 1 then _ else _) = _
      rw [if_pos rfl, ← plain_t1 hp h1]
    · by_cases h2 : p.k = 2
      · have he : opP (opF n) (lenF n) q a p = [{ opE with at_ := a, nx := a + 7, k := 2, nm := q.1, off := q.2.toNat }] := by unfold opP; rw [if_neg h1, if_pos h2]
        refine one _ he ?_
        have hg : ops[X.length]? = some { opE with at_ := a, nx := a + 7, k := 2, nm := q.1, off := q.2.toNat } := by rw [ho, he]; exact get_mid X _ _
        rw [liftF, hg]
        show (if (2 : Nat) = 1 then _ else if (2 : Nat) = 2 then _ else _) = _
        rw [if_neg (by decide), if_pos rfl, ← (plain_t2 hp h2).1]
      · by_cases h3 : p.k = 3
        · have he : opP (opF n) (lenF n) q a p = [{ opE with at_ := a, nx := a + 7, k := 3, nm := p.nm, ty := p.ty, st := p.st }] := by unfold opP; rw [if_neg h1, if_neg h2, if_pos h3]
          refine one _ he ?_
          have hg : ops[X.length]? = some { opE with at_ := a, nx := a + 7, k := 3, nm := p.nm, ty := p.ty, st := p.st } := by rw [ho, he]; exact get_mid X _ _
          rw [liftF, hg]
          show (if (3 : Nat) = 1 then _ else if (3 : Nat) = 2 then _ else if (3 : Nat) = 3 then _ else _) = _
          rw [if_neg (by decide), if_neg (by decide), if_pos rfl, ← plain_t3 hp h3]
        · have h4 : p.k = 4 ∨ p.k = 5 ∨ p.k = 6 := by
            rcases plain_k hp with h | h | h | h
            · exact absurd h h1
            · exact absurd h h2
            · exact absurd h h3
            · exact h
          obtain ⟨hpe, hf0, _⟩ := plain_t4 hp h4
          have hcp : casesP p = p.cs := by unfold casesP; rw [if_neg (by omega)]
          have hdp := hd p (List.mem_cons_self ..)
          rw [hcp] at hdp
          have hne : p.cs ≠ [] := by
            unfold plainB at hp
            rw [if_neg h1, if_neg h2, if_neg h3, if_pos h4] at hp
            simp only [Bool.and_eq_true, Bool.not_eq_true', decide_eq_false_iff_not] at hp
            obtain ⟨⟨⟨⟨⟨⟨⟨_, _⟩, _⟩, a4⟩, _⟩, _⟩, _⟩, _⟩ := hp
            exact fun e => a4 (by rw [e]; rfl)
          have hn0 : nest ≠ 0 := fun e => by
            obtain ⟨c, cs, hc⟩ := List.exists_cons_of_ne_nil hne
            have := hdp c (by rw [hc]; exact List.mem_cons_self ..)
            omega
          have he : opP (opF n) (lenF n) q a p = { opE with at_ := a, nx := a + 9 + 6 * p.cs.length, k := p.k.toNat, nm := p.nm, off := p.off.toNat, ks := p.cs.map Prod.fst, ts := startC (lenF n) (a + 9 + 6 * p.cs.length) p.cs } :: bodyO (opF n (inQ q p)) (lenF n) (a + lenP (lenF n) p) (a + 9 + 6 * p.cs.length) p.cs := by unfold opP; rw [if_neg h1, if_neg h2, if_neg h3]
          rw [he] at ho hf ⊢
          generalize hX : ({ opE with at_ := a, nx := a + 9 + 6 * p.cs.length, k := p.k.toNat, nm := p.nm, off := p.off.toNat, ks := p.cs.map Prod.fst, ts := startC (lenF n) (a + 9 + 6 * p.cs.length) p.cs } : OT) = o at ho hf ⊢
          have hok : o.k = p.k.toNat ∧ o.ks = p.cs.map Prod.fst ∧ o.nm = p.nm ∧ o.off = p.off.toNat := by rw [← hX]; exact ⟨rfl, rfl, rfl, rfl⟩
          rw [List.length_cons] at hf
          have hg : ops[X.length]? = some o := by rw [ho]; exact get_mid X _ _
          have hC := cas_at ih (h := decide (p.k ≠ 4)) (inQ q p) (a + lenP (lenF n) p) (nest - 1) f ops p.cs [] (a + 9 + 6 * p.cs.length) X.length [] (X ++ [o]) (opL (opF n) (lenF n) q (a + lenP (lenF n) p) l ++ j :: Y) hcs (fun c hc => by have := hdp c hc; omega) (by omega) (by rw [ho]; simp only [List.append_assoc, List.cons_append, List.nil_append]) (by simp only [List.length_append, List.length_cons, List.length_nil])
          have hT := ih2 f (acc ++ [p]) (X ++ o :: bodyO (opF n (inQ q p)) (lenF n) (a + lenP (lenF n) p) (a + 9 + 6 * p.cs.length) p.cs) (by omega) (by rw [ho]; simp only [List.append_assoc, List.cons_append])
          rw [List.length_append, List.length_cons] at hT
          rw [liftF, hg]
          show (if o.k = 1 then _ else if o.k = 2 then _ else if o.k = 3 then _ else _) = _
          rw [if_neg (by omega), if_neg (by omega), if_neg (by omega), if_neg (by omega), if_neg hn0, hok.2.1, hC]
          show liftF ops f nest (X.length + (bodyO (opF n (inQ q p)) (lenF n) (a + lenP (lenF n) p) (a + 9 + 6 * p.cs.length) p.cs).length + 1) (acc ++ [⟨(o.k : Int), ⟨#[]⟩, o.nm, ⟨#[]⟩, ⟨#[]⟩, (o.off : Int), [] ++ p.cs⟩]) = _
          rw [List.nil_append, hok.1, hok.2.2.1, hok.2.2.2, show ((p.k.toNat : Nat) : Int) = p.k by omega, show ((p.off.toNat : Nat) : Int) = p.off by omega, ← hpe, Nat.add_assoc, hT, List.length_cons]
          simp only [List.append_assoc, List.cons_append, List.nil_append]
          rw [show X.length + ((bodyO (opF n (inQ q p)) (lenF n) (a + lenP (lenF n) p) (a + 9 + 6 * p.cs.length) p.cs).length + 1) + (opL (opF n) (lenF n) q (a + lenP (lenF n) p) l).length = X.length + ((bodyO (opF n (inQ q p)) (lenF n) (a + lenP (lenF n) p) (a + 9 + 6 * p.cs.length) p.cs).length + 1 + (opL (opF n) (lenF n) q (a + lenP (lenF n) p) l).length) by omega]
theorem lift_at : ∀ n, LiftAt n
  | 0 => fun _ _ _ _ _ _ _ _ _ _ h => by cases h
  | n + 1 => fun l _ q a nest f ops X j Y hr hd hj hf ho => by
    have := parts_lift (lift_at n) q nest ops j hj l 0 a f [] X Y hr (mostL_le1 l 0 nest hd).2 hf ho
    rw [List.nil_append] at this
    exact this

/-! ### the whole -/
theorem lenC_bulk {L K : List PT → Nat} (h : ∀ m, L m ≤ 11 * K m) : ∀ cs : List CT, 6 * cs.length + lenC L cs ≤ 11 * bulkC K cs
  | [] => Nat.le_refl _
  | c :: cs => by
    have h1 := lenC_bulk h cs
    have h2 := h c.2
    simp only [lenC, bulkC, List.length_cons]
    omega
theorem lenL_bulk {L K : List PT → Nat} (h : ∀ m, L m ≤ 11 * K m) : ∀ l : List PT, lenL L l ≤ 11 * bulkL K l
  | [] => Nat.le_refl _
  | p :: l => by
    have h1 := lenL_bulk h l
    have h2 := lenC_bulk h p.cs
    have h3 : lenP L p ≤ 9 + (6 * p.cs.length + lenC L p.cs) := by
      unfold lenP
      split
      · omega
      · split
        · omega
        · split <;> omega
    simp only [lenL, bulkL]
    omega
theorem lenF_bulk : ∀ (n : Nat) (l : List PT), lenF n l ≤ 11 * bulkF n l
  | 0, _ => Nat.zero_le _
  | n + 1, l => lenL_bulk (lenF_bulk n) l
theorem optT_size {t x : ByteArray} (h : x ∈ optT t) : x = t := by
  unfold optT at h
  split at h
  · simp at h
  · simpa using h
theorem caseT_size {U : List PT → List ByteArray} {K : List PT → Nat} {x : ByteArray} (h : ∀ m, x ∈ U m → x.size ≤ K m) : ∀ cs : List CT, x ∈ caseT U cs → x.size ≤ bulkC K cs
  | [], hx => by simp [caseT] at hx
  | c :: cs, hx => by
    simp only [caseT, List.mem_cons, List.mem_append] at hx
    simp only [bulkC]
    rcases hx with rfl | hx | hx
    · omega
    · have := h _ hx; omega
    · have := caseT_size h cs hx; omega
theorem textL_size {U : List PT → List ByteArray} {K : List PT → Nat} {x : ByteArray} (h : ∀ m, x ∈ U m → x.size ≤ K m) : ∀ l : List PT, x ∈ textL U l → x.size ≤ bulkL K l
  | [], hx => by simp [textL] at hx
  | p :: l, hx => by
    simp only [textL, List.mem_append] at hx
    simp only [bulkL]
    rcases hx with hx | hx
    · unfold partT at hx
      split at hx
      · rw [List.mem_singleton] at hx; rw [hx]; omega
      · split at hx
        · simp at hx
        · split at hx
          · simp only [List.mem_cons, List.mem_append] at hx
            rcases hx with rfl | hx | hx
            · omega
            · rw [optT_size hx]; omega
            · rw [optT_size hx]; omega
          · rcases List.mem_cons.1 hx with rfl | hx
            · omega
            · have := caseT_size h p.cs hx; omega
    · have := textL_size h l hx; omega
theorem textF_size : ∀ (n : Nat) (l : List PT) (x : ByteArray), x ∈ textF n l → x.size ≤ bulkF n l
  | 0, _, _, h => by simp [textF] at h
  | n + 1, l, _, h => textL_size (fun m hm => textF_size n m _ hm) l h
section
variable {O : InP → Nat → List PT → List OT} {L : List PT → Nat}
theorem bodyO_len {O : Nat → List PT → List OT} (h : ∀ a m, (O a m).length ≤ L m) (z : Nat) : ∀ (cs : List CT) (a : Nat), (bodyO O L z a cs).length ≤ lenC L cs
  | [], _ => Nat.le_refl _
  | c :: cs, a => by
    have h1 := bodyO_len h z cs (a + L c.2 + 5)
    have h2 := h a c.2
    simp only [bodyO, lenC, List.length_append, List.length_cons]
    omega
theorem opL_len (h : ∀ q a m, (O q a m).length ≤ L m) (q : InP) : ∀ (l : List PT) (a : Nat), (opL O L q a l).length ≤ lenL L l
  | [], _ => Nat.le_refl _
  | p :: l, a => by
    have h1 := opL_len h q l (a + lenP L p)
    have h2 : (opP O L q a p).length ≤ lenP L p := by
      unfold opP
      split
      · rename_i hk; unfold lenP; rw [if_pos hk]; simp
      · split
        · rename_i h1 hk; unfold lenP; rw [if_neg h1, if_pos hk]; simp
        · split
          · rename_i h1 h2 hk; unfold lenP; rw [if_neg h1, if_neg h2, if_pos hk]; simp
          · rename_i h1 h2 h3
            have hb := bodyO_len (h (inQ q p)) (a + lenP L p) p.cs (a + 9 + 6 * p.cs.length)
            have el : lenP L p = 9 + 6 * p.cs.length + lenC L p.cs := by unfold lenP; rw [if_neg h1, if_neg h2, if_neg h3]
            rw [List.length_cons, el]
            rw [el] at hb
            omega
    simp only [opL, lenL, List.length_append]
    omega
end
theorem opF_len : ∀ (n : Nat) (q : InP) (a : Nat) (l : List PT), (opF n q a l).length ≤ lenF n l
  | 0, _, _, _ => Nat.le_refl _
  | n + 1, q, a, l => opL_len (opF_len n) q l a
def q0 : InP := (⟨#[]⟩, 0)
/-- The instructions of a message's code. -/
def codeO (n : Nat) (l : List PT) : List OT := opF n q0 0 l ++ [{ opE with at_ := lenF n l, nx := lenF n l + 1 }]
theorem code_list {n : Nat} {l : List PT} (hr : rightF n l false = true) (hb : bulkF n l ≤ 60000) : listR (codeF n l) = some (poolF (textF n l), codeO n l) := by
  have hP : (poolF (textF n l)).length ≤ 60000 := Nat.le_trans (pool_len _) (Nat.le_trans (textF_bulk n l) hb)
  have hps : ∀ s ∈ poolF (textF n l), s.size < 65536 := fun s hs => by
    have := textF_size n l s (pool_mem.1 hs)
    omega
  have hL := lenF_bulk n l
  have hpm : ∀ t ∈ textF n l, t ∈ poolF (textF n l) := fun t ht => pool_mem.2 ht
  obtain ⟨b, hbb⟩ : ∃ b, codeF n l = b := ⟨_, rfl⟩
  have hA : AtL b 0 (w16 (poolF (textF n l)).length ++ (tabT (poolF (textF n l)) ++ (w32 (lenF n l + 1) ++ (codF (poolF (textF n l)) n q0 0 l ++ [0])))) := by
    unfold AtL
    rw [List.drop_zero, ← hbb]
    simp only [codeF, List.append_assoc, q0]
  rw [hbb]
  clear hbb
  generalize poolF (textF n l) = P at *
  have h1 := hA.n16 (by omega)
  have hA1 := hA.m16
  have h2 := poolR_at P [] _ hps hA1
  have hA2 := hA1.move
  have h3 := hA2.n32 (by omega)
  have hA3 := hA2.m32
  generalize hz : 0 + 2 + (tabT P).length + 4 = z at *
  have hl : b.length - z = lenF n l + 1 := by
    have := congrArg List.length hA3
    rw [List.length_drop, List.length_append, codF_len] at this
    exact this
  unfold listR
  rw [h1]
  show (if (numR b 4 (poolR b P.length [] ⟨0 + 2, false⟩).2).2.e = true ∨ _ then _ else _) = _
  simp only [h2, h3, List.nil_append]
  rw [if_neg (by rw [hl]; simp)]
  have ho := opF_len n q0 0 l
  obtain ⟨f, hf⟩ : ∃ f, b.length + 1 - z = f + 2 + (opF n q0 0 l).length := ⟨lenF n l - (opF n q0 0 l).length, by omega⟩
  have h4 := ops_at (b := b) (z := z) (by omega) n l false q0 0 (f + 2) [] [0] hr hpm (fun h => by cases h) (by decide) (by decide) (by omega) hb hA3
  have hA4 := hA3.move
  rw [codF_len] at hA4
  simp only [Nat.add_zero] at h4
  have h5 : opR b P z (z + lenF n l - z) (0 : UInt8).toNat ⟨z + lenF n l + 1, false⟩ = ({ opE with at_ := lenF n l, nx := lenF n l + 1 }, true, ⟨z + lenF n l + 1, false⟩) := by
    unfold opR
    rw [if_pos (by decide)]
    simp only [opE]
    rw [show z + lenF n l - z = lenF n l by omega, show z + lenF n l + 1 - z = lenF n l + 1 by omega]
  have hA5 := hA4.m1
  have h6 : opsR b P z (f + 1) ([] ++ opF n q0 0 l ++ [{ opE with at_ := lenF n l, nx := lenF n l + 1 }]) (z + lenF n l + 1) = some ([] ++ opF n q0 0 l ++ [{ opE with at_ := lenF n l, nx := lenF n l + 1 }]) := by
    rw [opsR, AtL.none hA5]
  rw [hf, h4, opsR_one hA4.byte h5, h6]
  show (if [] ++ opF n q0 0 l ++ [_] = [] then none else some (P, _)) = _
  rw [if_neg (by simp), List.nil_append]
  rfl
theorem code_lift {n : Nat} {l : List PT} (hr : rightF n l false = true) (hd : depthF n l ≤ 8) (f : Nat) (hf : (codeO n l).length ≤ f) : liftF (codeO n l) f 9 0 [] = some (l, (opF n q0 0 l).length) := by
  have := lift_at n l false q0 0 9 f (codeO n l) [] { opE with at_ := lenF n l, nx := lenF n l + 1 } [] hr (by omega) (.inr rfl) (by unfold codeO at hf; rw [List.length_append] at hf; simp only [List.length_cons, List.length_nil] at hf; omega) rfl
  simpa using this
end Go.Proofs.YtmfoiceofhcicaaGreatDoor
