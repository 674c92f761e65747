/- Plain, and numbers in slices of the call's own: for choice of the writer of code. -/
import Derived.Test.YtmfoiceofhcicaaGreatDoorKI
namespace Go.Proofs.YtmfoiceofhcicaaGreatDoor
open Go.RowKit Go.IntWalk

/-- Heads of cases whose places are still open. -/
def headZ (P : List ByteArray) : List CT → List UInt8
  | [] => []
  | c :: cs => w16 (idxT P c.1) ++ w32 0 ++ headZ P cs
theorem headZ_len (P : List ByteArray) : ∀ cs : List CT, (headZ P cs).length = 6 * cs.length
  | [] => rfl
  | c :: cs => by
    simp only [headZ, List.length_append, w16_len, w32_len, headZ_len P cs, List.length_cons]
    omega
theorem headZ_take {P : List ByteArray} {c : CT} : ∀ {cs : List CT} {k : Nat}, cs[k]? = some c → headZ P (cs.take (k + 1)) = headZ P (cs.take k) ++ (w16 (idxT P c.1) ++ w32 0)
  | [], _, h => by simp at h
  | x :: cs, 0, h => by
    simp only [List.getElem?_cons_zero, Option.some.injEq] at h
    subst h
    simp [headZ]
  | x :: cs, k + 1, h => by
    simp only [List.take_succ_cons, headZ, List.append_assoc]
    rw [headZ_take (by simpa using h)]
theorem lenC_take {L : List PT → Nat} {c : CT} : ∀ {cs : List CT} {k : Nat}, cs[k]? = some c → lenC L (cs.take (k + 1)) = lenC L (cs.take k) + (L c.2 + 5)
  | [], _, h => by simp at h
  | x :: cs, 0, h => by
    simp only [List.getElem?_cons_zero, Option.some.injEq] at h
    subst h
    simp [lenC]
  | x :: cs, k + 1, h => by
    simp only [List.take_succ_cons, lenC]
    rw [lenC_take (by simpa using h)]
    omega
theorem lenC_take_le (L : List PT → Nat) : ∀ (cs : List CT) (k : Nat), lenC L (cs.take k) ≤ lenC L cs
  | [], k => by simp
  | x :: cs, 0 => Nat.zero_le _
  | x :: cs, k + 1 => by
    have := lenC_take_le L cs k
    simp only [List.take_succ_cons, lenC]
    omega
theorem headC_take {P : List ByteArray} {L : List PT → Nat} {c : CT} : ∀ {cs : List CT} {k a : Nat}, cs[k]? = some c → headC P L a (cs.take (k + 1)) = headC P L a (cs.take k) ++ (w16 (idxT P c.1) ++ w32 (a + lenC L (cs.take k)))
  | [], _, _, h => by simp at h
  | x :: cs, 0, a, h => by
    simp only [List.getElem?_cons_zero, Option.some.injEq] at h
    subst h
    simp [headC, lenC]
  | x :: cs, k + 1, a, h => by
    simp only [List.take_succ_cons, headC, lenC, List.append_assoc]
    rw [headC_take (by simpa using h), show a + L x.2 + 5 + lenC L (cs.take k) = a + (L x.2 + 5 + lenC L (cs.take k)) by omega]
theorem bodyC_take {E : Nat → List PT → List UInt8} {L : List PT → Nat} {z : Nat} {c : CT} : ∀ {cs : List CT} {k a : Nat}, cs[k]? = some c → bodyC E L z a (cs.take (k + 1)) = bodyC E L z a (cs.take k) ++ (E (a + lenC L (cs.take k)) c.2 ++ ([7] ++ w32 z))
  | [], _, _, h => by simp at h
  | x :: cs, 0, a, h => by
    simp only [List.getElem?_cons_zero, Option.some.injEq] at h
    subst h
    simp [bodyC, lenC]
  | x :: cs, k + 1, a, h => by
    simp only [List.take_succ_cons, bodyC, lenC, List.append_assoc]
    rw [bodyC_take (by simpa using h), show a + L x.2 + 5 + lenC L (cs.take k) = a + (L x.2 + 5 + lenC L (cs.take k)) by omega]
theorem drop_some {α : Type} {l : List α} {k : Nat} {a : α} (h : l[k]? = some a) : l.drop k = a :: l.drop (k + 1) := by
  have hl := (List.getElem?_eq_some_iff.1 h)
  rw [List.drop_eq_getElem_cons hl.1, hl.2]
/-- Where the jumps' places stand. -/
def endC (L : List PT → Nat) : Nat → List CT → List Nat
  | _, [] => []
  | a, c :: cs => (a + L c.2 + 1) :: endC L (a + L c.2 + 5) cs
theorem endC_len (L : List PT → Nat) : ∀ (cs : List CT) (a : Nat), (endC L a cs).length = cs.length
  | [], _ => rfl
  | c :: cs, a => by simp [endC, endC_len L cs]
theorem endC_take {L : List PT → Nat} {c : CT} : ∀ {cs : List CT} {k a : Nat}, cs[k]? = some c → endC L a (cs.take (k + 1)) = endC L a (cs.take k) ++ [a + lenC L (cs.take k) + L c.2 + 1]
  | [], _, _, h => by simp at h
  | x :: cs, 0, a, h => by
    simp only [List.getElem?_cons_zero, Option.some.injEq] at h
    subst h
    simp [endC, lenC]
  | x :: cs, k + 1, a, h => by
    simp only [List.take_succ_cons, endC, lenC, List.cons_append]
    rw [endC_take (by simpa using h), show a + L x.2 + 5 + lenC L (cs.take k) + L c.2 + 1 = a + (L x.2 + 5 + lenC L (cs.take k)) + L c.2 + 1 by omega]
theorem endC_at {L : List PT → Nat} {c : CT} : ∀ {cs : List CT} {k a : Nat}, cs[k]? = some c → (endC L a cs)[k]? = some (a + lenC L (cs.take k) + L c.2 + 1)
  | [], _, _, h => by simp at h
  | x :: cs, 0, a, h => by
    simp only [List.getElem?_cons_zero, Option.some.injEq] at h
    subst h
    simp [endC, lenC]
  | x :: cs, k + 1, a, h => by
    simp only [List.take_succ_cons, endC, lenC, List.getElem?_cons_succ]
    rw [endC_at (by simpa using h), show a + L x.2 + 5 + lenC L (cs.take k) + L c.2 + 1 = a + (L x.2 + 5 + lenC L (cs.take k)) + L c.2 + 1 by omega]
/-- Where the heads' places stand. -/
def posL (b k : Nat) : List Nat := (List.range k).map fun i => b + 6 * i + 2
theorem posL_len (b k : Nat) : (posL b k).length = k := by simp [posL]
theorem posL_succ (b k : Nat) : posL b (k + 1) = posL b k ++ [b + 6 * k + 2] := by simp [posL, List.range_succ]
theorem posL_at (b k i : Nat) (h : i < k) : (posL b k)[i]? = some (b + 6 * i + 2) := by
  unfold posL
  rw [List.getElem?_map, List.getElem?_range h]
  rfl
/-- A head's place is put in. -/
theorem head_put {P : List ByteArray} {L : List PT → Nat} {cs : List CT} {c : CT} {k a : Nat} {pre T : List UInt8} (h : cs[k]? = some c) :
    setL (pre ++ headC P L a (cs.take k) ++ headZ P (cs.drop k) ++ T) (pre.length + 6 * k + 2) (w32 (a + lenC L (cs.take k))) = pre ++ headC P L a (cs.take (k + 1)) ++ headZ P (cs.drop (k + 1)) ++ T := by
  have hk := (List.getElem?_eq_some_iff.1 h).1
  have e1 : pre ++ headC P L a (cs.take k) ++ headZ P (cs.drop k) ++ T = (pre ++ headC P L a (cs.take k) ++ w16 (idxT P c.1)) ++ (w32 0 ++ (headZ P (cs.drop (k + 1)) ++ T)) := by
    rw [drop_some h]
    simp only [headZ, List.append_assoc]
  have e2 : pre.length + 6 * k + 2 = (pre ++ headC P L a (cs.take k) ++ w16 (idxT P c.1)).length := by
    simp only [List.length_append, headC_len, w16_len, List.length_take]
    omega
  rw [e1, e2, setL_mid _ _ _ _ (by rw [w32_len, w32_len]), headC_take h]
  simp only [List.append_assoc]
/-- A jump's place is put in. -/
theorem end_put {E : Nat → List PT → List UInt8} {L : List PT → Nat} {cs : List CT} {c : CT} {k a z : Nat} {pre : List UInt8} (hE : ∀ a m, (E a m).length = L m) (ha : pre.length = a) (h : cs[k]? = some c) :
    setL (pre ++ bodyC E L z a (cs.take k) ++ bodyC E L 0 (a + lenC L (cs.take k)) (cs.drop k)) (a + lenC L (cs.take k) + L c.2 + 1) (w32 z) = pre ++ bodyC E L z a (cs.take (k + 1)) ++ bodyC E L 0 (a + lenC L (cs.take (k + 1))) (cs.drop (k + 1)) := by
  have e1 : pre ++ bodyC E L z a (cs.take k) ++ bodyC E L 0 (a + lenC L (cs.take k)) (cs.drop k) = (pre ++ bodyC E L z a (cs.take k) ++ E (a + lenC L (cs.take k)) c.2 ++ [7]) ++ (w32 0 ++ bodyC E L 0 (a + lenC L (cs.take (k + 1))) (cs.drop (k + 1))) := by
    rw [drop_some h, lenC_take h]
    simp only [bodyC, List.append_assoc]
    rw [show a + lenC L (cs.take k) + L c.2 + 5 = a + (lenC L (cs.take k) + (L c.2 + 5)) by omega]
  have e2 : a + lenC L (cs.take k) + L c.2 + 1 = (pre ++ bodyC E L z a (cs.take k) ++ E (a + lenC L (cs.take k)) c.2 ++ [7]).length := by
    simp only [List.length_append, bodyC_len hE, hE, List.length_cons, List.length_nil]
    omega
  rw [e1, e2, setL_mid _ _ _ _ (by rw [w32_len, w32_len]), bodyC_take h]
  simp only [List.append_assoc]

theorem caseR_at {R : List PT → Bool} {k : Int} {c : CT} : ∀ {cs : List CT} {ks : List ByteArray} {i : Nat}, caseR R k ks cs = true → cs[i]? = some c → R c.2 = true
  | [], _, _, _, h => by simp at h
  | x :: cs, ks, 0, hr, h => by
    simp only [List.getElem?_cons_zero, Option.some.injEq] at h
    subst h
    simp only [caseR, Bool.and_eq_true] at hr
    exact hr.1.2
  | x :: cs, ks, i + 1, hr, h => by
    simp only [caseR, Bool.and_eq_true] at hr
    exact caseR_at hr.2 (by simpa using h)
theorem caseT_sub {T : List PT → List ByteArray} {c : CT} {t : ByteArray} : ∀ {cs : List CT}, c ∈ cs → t ∈ T c.2 → t ∈ caseT T cs
  | [], h, _ => by simp at h
  | x :: cs, h, ht => by
    unfold caseT
    rcases List.mem_cons.1 h with rfl | h
    · exact List.mem_cons_of_mem _ (List.mem_append_left _ ht)
    · exact List.mem_cons_of_mem _ (List.mem_append_right _ (caseT_sub h ht))
/-! ### numbers of the call's own -/
theorem infoN : (Tryz.prog.info? 3).map (fun i => (i.zero, i.size, i.bytes)) = some (some (.int .i64 0), 1, 8) := by kernel_rfl
def cellN (n : Nat) : Value := .int .i64 (n : Int)
def OwnN (w : World) (B : Nat) (v : Value) (ns : List Nat) : Prop := w.ownsRow B 3 1 v ns.length (ns.map cellN)
section
variable {w w' : World} {B : Nat} {v : Value} {ns : List Nat} {bs : List Nat}
theorem OwnN.nil (w : World) (B : Nat) : OwnN w B (.slice none 0 0) [] := World.ownsRow_nil w B _ 1
theorem OwnN.lt (h : OwnN w B v ns) : ∀ x ∈ v.ownBlock.toList, B ≤ x ∧ x < w.heap.size := fun x hx => World.ownsRow.lt h x (by simpa using hx)
theorem OwnN.keep (h : OwnN w B v ns) (hk : Keep bs w w') (hb : ∀ x ∈ v.ownBlock.toList, x ∉ bs) : OwnN w' B v ns := ownsRow_keep h hk hb
theorem OwnN.le {B' : Nat} (h : OwnN w B v ns) (hB : B' ≤ B) : OwnN w B' v ns := by
  refine ⟨h.1, ?_⟩
  rcases h.2 with h | ⟨g, cap, cur, h1, h2, h3⟩
  · exact .inl h
  · exact .inr ⟨g, cap, cur, h1, Nat.le_trans hB h2, h3⟩
theorem OwnN.form (h : OwnN w B v ns) : ∃ A cap, v = .slice A ns.length cap := by
  rcases h.2 with ⟨rfl, h0⟩ | ⟨g, cap, cur, rfl, _⟩
  · rw [h0]; exact ⟨_, _, rfl⟩
  · exact ⟨_, _, rfl⟩
theorem OwnN.at (h : OwnN w B v ns) {i n : Nat} (hi : ns[i]? = some n) : ∃ b cap, v = .slice (some ⟨b, 0, none⟩) ns.length cap ∧ w.cell? ⟨b, i, none⟩ = some (.int .i64 (n : Int)) := by
  have hl := (List.getElem?_eq_some_iff.1 hi).1
  have h' := h
  rcases h.2 with ⟨rfl, h0⟩ | ⟨g, cap, cur, rfl, _⟩
  · omega
  · refine ⟨g, cap, rfl, ?_⟩
    rw [World.ownsRow.cellAt h' i (by omega), List.getElem?_map, hi]
    rfl
/-- Rows of bytes and of numbers are not one. -/
theorem own_un {B' : Nat} {u : Value} {l : List UInt8} (h : OwnN w B v ns) (h' : OwnU w B' u l) : ∀ x ∈ v.ownBlock.toList, x ∉ u.ownBlock.toList := own_own_ne h h' (by decide)
theorem own_nm {b m : Nat} {D : MapD} (h : OwnN w B v ns) (hm : OwnMap w b m D) : b ∉ v.ownBlock.toList := fun hx => by
  obtain ⟨es, clock, he, _⟩ := hm
  rcases h.2 with ⟨rfl, _⟩ | ⟨g, cap, cur, rfl, _, hb, _⟩
  · simp [Value.ownBlock] at hx
  · simp [Value.ownBlock] at hx
    subst hx
    rw [he] at hb
    cases hb
/-- append of one number. -/
theorem wpList_append_n {ops : Array Oper} {rest : List Oper} {o : Oper} {a : Act} {Q : Exit → Act → World → Prop} (hgd : o.guard = none) (s x : Operand)
    (ho : o.op = .call { callee := .builtin .append, args := #[s, x], argTypes := #[30, 30] })
    (hs : a.eval s = v) (hown : OwnN w B v ns) (n : Nat) (hx : a.eval x = .slice (some ⟨w.heap.size, 0, none⟩) 1 1)
    (hlen : ns.length ≤ 1000000000) (hB : B ≤ w.heap.size)
    (h : ∀ v' w', OwnN w' B v' (ns ++ [n]) → Keep v.ownBlock.toList w w' → wpList Tryz.prog ops Q rest (a.put o.dst v') w') : wpList Tryz.prog ops Q (o :: rest) a (w.alloc (.cells #[.int .i64 (n : Int)] 3)) := by
  obtain ⟨i0, hi, hz0, hz1, hz2⟩ := info_parts infoN
  refine wpList_append_own _ hgd s x 30 ho B 3 i0 _ 1 8 Tryz.underlying30 hi hz0 hz1 hz2 rfl (by decide) v ns.length (ns.map cellN) hs (World.ownsRow.alloc hown _) ⟨w.heap.size, 0, none⟩ 1 1 [.int .i64 (n : Int)] hx (by simp) (new_cellsU w _ rfl [.int .i64 (n : Int)] _) ?_ (by unfold maxLen; omega) (by omega) (by simp; omega) ?_
  · intro u hu
    simp only [List.mem_cons, List.mem_nil_iff, or_false] at hu
    rw [hu]
    rfl
  · intro v' w' h1 h2 _
    refine h v' w' ?_ (((Keep.refl _ w).alloc _).grown h2 fun k hk => .inl (by simpa using hk))
    unfold OwnN
    rw [List.map_append, List.length_append, List.map_cons, List.map_nil]
    exact h1
end
section
variable {w w' : World} {g mb B m : Nat} {D : MapD} {v v' : Value} {l l' : List UInt8}
/-- The writer has no part in rows of numbers. -/
theorem Stp.carryN (h : Stp w g mb B m D v w' v' l') (hs : St w g mb B m D v l) {B' : Nat} {u : Value} {ns : List Nat} (hn : OwnN w B' u ns) : OwnN w' B' u ns :=
  hn.keep h.2.2 fun x hx hc => by
    rcases List.mem_cons.1 hc with hc | hc
    · subst hc
      exact own_blk_ne hn hs.wr.blk (by decide) (by simpa using hx)
    · exact own_un hn hs.wr.own x hx hc
/-- Numbers put behind others of the call's own: the writer stands. -/
theorem Stp.num {w0 w1 : World} {v0 : Value} (h : Stp w0 g mb B m D v0 w v l) {u : Value} {ns : List Nat} (hn : OwnN w w0.heap.size u ns) (hk : Keep u.ownBlock.toList w w1) : Stp w0 g mb B m D v0 w1 v l :=
  ⟨h.1.keep hk (fun hc => own_blk_ne hn h.1.wr.blk (by decide) (by simpa using hc)) (fun x hx hc => own_un hn h.1.wr.own x hc hx) (own_nm hn h.1.mp), h.2.1,
    h.2.2.trans hk fun x hx => .inr (hn.lt x hx).1⟩
end
end Go.Proofs.YtmfoiceofhcicaaGreatDoor
