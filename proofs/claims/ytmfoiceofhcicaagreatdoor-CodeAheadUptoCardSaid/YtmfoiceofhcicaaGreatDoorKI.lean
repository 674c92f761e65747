/- Walks: the writer of code: its state; parts, choice being given. -/
import Derived.Test.YtmfoiceofhcicaaGreatDoorKH
import Derived.Test.YtmfoiceofhcicaaGreatDoorKD
import Derived.Maps.AppendAt
import Derived.Deep.RegionHeld3
namespace Go.Proofs.YtmfoiceofhcicaaGreatDoor
open Go.RowKit Go.IntWalk

section
variable {w w' : World} {B : Nat} {v : Value} {l : List UInt8}
/-- append of one byte to bytes of the call's own. -/
theorem wpList_append_b {ops : Array Oper} {rest : List Oper} {o : Oper} {a : Act} {Q : Exit → Act → World → Prop} (hgd : o.guard = none) (s x : Operand)
    (ho : o.op = .call { callee := .builtin .append, args := #[s, x], argTypes := #[25, 25] })
    (hs : a.eval s = v) (hown : OwnU w B v l) (c : UInt8) (z : Int) (hz : cellU c = .int .u8 z) (hx : a.eval x = .slice (some ⟨w.heap.size, 0, none⟩) 1 1)
    (hlen : l.length ≤ 100000000000) (hB : B ≤ w.heap.size)
    (h : ∀ v' w', OwnU w' B v' (l ++ [c]) → Keep v.ownBlock.toList w w' → (∀ x ∈ v'.ownBlock.toList, x ∈ v.ownBlock.toList ∨ w.heap.size ≤ x) → wpList Tryz.prog ops Q rest (a.put o.dst v') w') : wpList Tryz.prog ops Q (o :: rest) a (w.alloc (.cells #[.int .u8 z] 5)) := by
  obtain ⟨i0, hi, hz0, hz1, hz2⟩ := info_parts infoU
  refine wpList_append_own_at _ hgd s x 25 ho B 5 i0 _ 1 1 Tryz.underlying25 hi hz0 hz1 hz2 rfl (by decide) v l.length (l.map cellU) hs (World.ownsRow.alloc hown _) ⟨w.heap.size, 0, none⟩ 1 1 [.int .u8 z] hx (by simp) (new_cellsU w _ rfl [.int .u8 z] _) ?_ (by unfold maxLen; omega) (by omega) (by simp; omega) ?_
  · intro u hu
    simp only [List.mem_cons, List.mem_nil_iff, or_false] at hu
    rw [hu]
    rfl
  · intro v' w' h1 h2 _ h4
    refine h v' w' ?_ (((Keep.refl _ w).alloc _).grown h2 fun k hk => .inl (by simpa using hk)) fun x hx => ?_
    · unfold OwnU
      rw [List.map_append, List.length_append, List.map_cons, List.map_nil, hz]
      exact h1
    · rcases h4 with h4 | h4
      · exact .inl (by rw [← h4]; exact hx)
      · rw [h4] at hx
        exact .inr (by simp at hx; omega)
end
/-- The writer and its map. -/
structure St (w : World) (g mb B m : Nat) (D : MapD) (v : Value) (l : List UInt8) : Prop where
  wr : Wr w g mb B v l
  mp : OwnMap w mb m D
section
variable {w w' : World} {g mb B m : Nat} {D : MapD} {v v' : Value} {l l' : List UInt8} {bs : List Nat}
theorem St.cells (h : St w g mb B m D v l) : w.cell? ⟨g, 0, none⟩ = some (.map (some mb)) ∧ w.cell? ⟨g, 1, none⟩ = some v ∧ w.frozen? ⟨g, 1, none⟩ = false := h.wr.cells
theorem St.mne (h : St w g mb B m D v l) : mb ≠ g ∧ mb ∉ v.ownBlock.toList := by
  refine ⟨ownMap_ne h.mp h.wr.blk, fun hx => ?_⟩
  obtain ⟨es, clock, he, _⟩ := h.mp
  rcases h.wr.own.2 with ⟨rfl, _⟩ | ⟨b, cap, cur, rfl, _, hb, _⟩
  · simp [Value.ownBlock] at hx
  · simp [Value.ownBlock] at hx
    subst hx
    rw [he] at hb
    cases hb
theorem St.keep (h : St w g mb B m D v l) (hk : Keep bs w w') (hg : g ∉ bs) (hb : ∀ x ∈ v.ownBlock.toList, x ∉ bs) (hm : mb ∉ bs) : St w' g mb B m D v l := ⟨h.wr.keep hk hg hb, h.mp.keep hk hm⟩
theorem St.drew (h : St w g mb B m D v l) : St w.drew g mb B m D v l := h.keep (bs := []) ((Keep.refl _ _).drew) (by simp) (by simp) (by simp)
theorem St.drewN (h : St w g mb B m D v l) (k : Nat) : St (w.drewN k) g mb B m D v l := h.keep (bs := []) ((Keep.refl _ _).drewN k) (by simp) (by simp) (by simp)
theorem St.alloc (h : St w g mb B m D v l) (o : Obj) : St (w.alloc o) g mb B m D v l := h.keep (bs := []) ((Keep.refl _ _).alloc o) (by simp) (by simp) (by simp)
/-- A step of the writer: what it leaves. -/
def Stp (w : World) (g mb B m : Nat) (D : MapD) (v : Value) (w' : World) (v' : Value) (l' : List UInt8) : Prop :=
  St w' g mb B m D v' l' ∧ (∀ x ∈ v'.ownBlock.toList, x ∈ v.ownBlock.toList ∨ w.heap.size ≤ x) ∧ Keep (g :: v.ownBlock.toList) w w'
theorem Stp.refl (h : St w g mb B m D v l) : Stp w g mb B m D v w v l := ⟨h, fun _ hx => .inl hx, Keep.refl _ _⟩
theorem Stp.trans {w'' : World} {v'' : Value} {l'' : List UInt8} (h : Stp w g mb B m D v w' v' l') (k : Stp w' g mb B m D v' w'' v'' l'') : Stp w g mb B m D v w'' v'' l'' := by
  refine ⟨k.1, fun x hx => ?_, h.2.2.trans k.2.2 fun x hx => ?_⟩
  · rcases k.2.1 x hx with hx | hx
    · exact h.2.1 x hx
    · exact .inr (Nat.le_trans h.2.2.size hx)
  · rcases List.mem_cons.1 hx with hx | hx
    · exact .inl (by simp [hx])
    · rcases h.2.1 x hx with hx | hx
      · exact .inl (List.mem_cons_of_mem _ hx)
      · exact .inr hx
/-- A block that the writer has no part in stands. -/
theorem Stp.carry (h : Stp w g mb B m D v w' v' l') {x : Nat} {t : TypeId} {cs : Array Value} (hx : Blk w x t cs) (hg : x ≠ g) (hv : x ∉ v.ownBlock.toList) : Blk w' x t cs ∧ x ∉ v'.ownBlock.toList := by
  have hl := hx.lt
  refine ⟨hx.keep h.2.2 fun hc => ?_, fun hc => ?_⟩
  · rcases List.mem_cons.1 hc with hc | hc
    · exact hg hc
    · exact hv hc
  · rcases h.2.1 x hc with hc | hc
    · exact hv hc
    · omega
/-- New blocks and draws ahead of a step are nothing to it. -/
theorem Stp.ahead {w0 : World} (hk : Keep [] w0 w) (h : Stp w g mb B m D v w' v' l') : Stp w0 g mb B m D v w' v' l' :=
  ⟨h.1, fun x hx => (h.2.1 x hx).imp id fun hx => Nat.le_trans hk.size hx, (hk.mono (fun x hx => by cases hx)).trans h.2.2 fun x hx => .inl hx⟩
theorem Stp.behind {w'' : World} (h : Stp w g mb B m D v w' v' l') (hk : Keep [] w' w'') : Stp w g mb B m D v w'' v' l' :=
  ⟨h.1.keep hk (by simp) (by simp) (by simp), h.2.1, h.2.2.nil hk⟩
/-- The writer's bytes stored anew. -/
theorem St.store {w1 : World} (h : St w g mb B m D v l) (ho : OwnU w1 B v' l') (hk : Keep v.ownBlock.toList w w1) (hl : ∀ x ∈ v'.ownBlock.toList, x ∈ v.ownBlock.toList ∨ w.heap.size ≤ x) :
    Stp w g mb B m D v (w1.setCell ⟨g, 1, none⟩ v') v' l' := by
  have hks : Keep [g] w1 (w1.setCell ⟨g, 1, none⟩ v') := (Keep.refl _ _).setCell (.inl (by simp)) _
  have hng : ∀ x ∈ v'.ownBlock.toList, x ≠ g := fun x hx => by
    rcases hl x hx with hx | hx
    · exact h.wr.ne x hx
    · have := h.wr.blk.lt; omega
  have hb1 : Blk w1 g 100 #[.map (some mb), v] := h.wr.blk.keep hk fun hx => h.wr.ne g hx rfl
  refine ⟨⟨⟨Blk.set_ hb1 1 _, ho.keep hks fun x hx hc => hng x hx (by simpa using hc)⟩, (h.mp.keep hk h.mne.2).keep hks (by simpa using h.mne.1)⟩, hl, (hk.mono fun x hx => .inl (by simp [hx])).same (hks.mono fun x hx => .inl (by simp at hx; simp [hx]))⟩
end
/-- word, of the state. -/
theorem word_st {g mb B m : Nat} {D : MapD} {v : Value} {l : List UInt8} (w : World) (ns : List Nat) (nv : Value) (h : St w g mb B m D v l) (hB : B ≤ w.heap.size) (hr : RdN w nv ns) (hg : ∀ A m c, nv = .slice A m c → ∀ b o, A = some ⟨b, o, none⟩ → b ≠ g) (hl : l.length ≤ 5000000000) (hne : ns ≠ []) (hc : ns.length ≤ 1000) (hn : ∀ n ∈ ns, n < 65536) :
    Calls Tryz.prog 50 #[.pointer (some ⟨g, 0, none⟩), nv] w fun e w' => e = .returned (.tuple #[]) ∧ ∃ v', Stp w g mb B m D v w' v' (l ++ ns.flatMap w16) :=
  (word_any w g mb B v l ns nv h.wr hB hr hg hl hc hn).mono fun e w' ⟨he, v', hW, hv, hk⟩ => ⟨he, v', ⟨hW, h.mp.keep hk (by simpa using h.mne.1)⟩, fun x hx => .inr (hv hne x hx), hk.mono fun x hx => .inl (by simp at hx; simp [hx])⟩
theorem place_st {g mb B m : Nat} {D : MapD} {v : Value} {l : List UInt8} (w : World) (n : Nat) (h : St w g mb B m D v l) (hB : B ≤ w.heap.size) (hl : l.length ≤ 5000000000) (hn : n ≤ 2000000000) :
    Calls Tryz.prog 51 #[.pointer (some ⟨g, 0, none⟩), .int .i64 n] w fun e w' => e = .returned (.int .i64 l.length) ∧ ∃ v', Stp w g mb B m D v w' v' (l ++ w32 n) :=
  (place_any w g mb B v l n h.wr hB hl hn).mono fun e w' ⟨he, v', hW, hv, hk⟩ => ⟨he, v', ⟨hW, h.mp.keep hk (by simpa using h.mne.1)⟩, fun x hx => .inr (hv x hx), hk.mono fun x hx => .inl (by simp at hx; simp [hx])⟩
theorem here_st {g mb B m : Nat} {D : MapD} {v : Value} {l : List UInt8} (w : World) (a : Nat) (h : St w g mb B m D v l) (ha : a + 4 ≤ l.length) (hl : l.length ≤ 10000000) :
    Calls Tryz.prog 94 #[.pointer (some ⟨g, 0, none⟩), .int .i64 a] w fun e w' => e = .returned (.tuple #[]) ∧ Stp w g mb B m D v w' v (setL l a (w32 l.length)) :=
  (here_any w g mb B v l a h.wr ha hl).mono fun e w' ⟨he, hW, hk⟩ => ⟨he, ⟨hW, h.mp.keep hk h.mne.2⟩, fun x hx => .inl hx, hk.mono fun x hx => .inl (by simp [hx])⟩
/-- What is asked of the numbers of texts. -/
structure Nums (D : MapD) (P : List ByteArray) : Prop where
  val : ∀ t ∈ P, valD' D t = .lit (.int .i64 (idxT P t))
  len : P.length ≤ 60000
theorem new_nums (w : World) (ns : List Nat) (hl : ns.length ≤ maxLen) : RdN (w.alloc (.cells (ns.map fun n : Nat => Value.int .i64 (n : Int)).toArray 3)) (.slice (some ⟨w.heap.size, 0, none⟩) ns.length ns.length) ns := by
  refine ⟨_, _, rfl, Nat.le_refl _, ?_, fun _ => ⟨_, 0, rfl, trivial, by simp, fun j u hu => ?_⟩⟩
  · exact hl
  · rw [Nat.zero_add]
    exact (Blk.new w 3 _).cell_eq (by simpa using hu)
set_option maxRecDepth 100000 in
theorem St.look {w : World} {g mb B m : Nat} {D : MapD} {v : Value} {l : List UInt8} {P : List ByteArray} (h : St w g mb B m D v l) (hN : Nums D P) {s : ByteArray} (hs : s ∈ P) (hz : s.size ≤ 1000000000) :
    (Instr.lookup 98 (.map (some mb)) (.string s) false).run Tryz.prog w = .ok (.int .i64 (idxT P s)) w := by
  obtain ⟨c, hrun, hat, _⟩ := World.ownsMap.lookup_int h.mp law_s Tryz.underlying98 Tryz.underlying3 (zero_i _) (key_of hz)
  have : (DataW.lit (Lit.int .i64 (idxT P s)) : DataW Unit) = .lit (.int .i64 c) := (hN.val s hs).symm.trans hat
  injection this with this
  injection this with _ this
  rw [this]
  exact hrun
def PaC (n : Nat) : Prop := ∀ (l : List PT) (h : Bool) (ip : PT) (IA : Option Addr) (im ic : Nat) (S : Nat → Prop) (v : Value) (P : List ByteArray) (D : MapD) (g mb B m : Nat) (bv : Value) (acc : List UInt8) (w : World),
  Lies n S w v l → (∀ x, S x → x < B) → B ≤ g → B ≤ w.heap.size → rightF n l h = true → (∀ t ∈ textF n l, t ∈ P) → (h = true → ip.nm ∈ P) → 0 ≤ ip.off → ip.off ≤ 999999999 → ip.nm.size ≤ 1000000000 → Nums D P → bulkF n l ≤ 60000 → acc.length + lenF n l ≤ 9000000 → St w g mb B m D bv acc →
  Calls Tryz.prog 49 #[.pointer (some ⟨g, 0, none⟩), v, .agg #[.int .i64 ip.k, .string ip.tx, .string ip.nm, .string ip.ty, .string ip.st, .int .i64 ip.off, .slice IA im ic]] w fun e w' => e = .returned (.tuple #[]) ∧ ∃ bv', Stp w g mb B m D bv w' bv' (acc ++ codF P n (ip.nm, ip.off) acc.length l)
/-- A choice's instructions. -/
def chW (P : List ByteArray) (E : Nat → List PT → List UInt8) (L : List PT → Nat) (a : Nat) (p : PT) : List UInt8 :=
  UInt8.ofNat p.k.toNat :: (w16 (idxT P p.nm) ++ w32 p.off.toNat ++ w16 p.cs.length ++ headC P L (a + 9 + 6 * p.cs.length) p.cs ++ bodyC E L (a + lenP L p) (a + 9 + 6 * p.cs.length) p.cs)
def ChC (n : Nat) : Prop := ∀ (p ip : PT) (cv : Value) (IA : Option Addr) (im ic : Nat) (S : Nat → Prop) (P : List ByteArray) (D : MapD) (g mb B m : Nat) (bv : Value) (acc : List UInt8) (w : World),
  LiesC n S w cv p.cs → (∀ x, S x → x < B) → B ≤ g → B ≤ w.heap.size → (p.k = 4 ∨ p.k = 5 ∨ p.k = 6) → caseR (fun m => rightF n m (decide (p.k ≠ 4))) p.k [] p.cs = true → p.nm ∈ P → (∀ t ∈ caseT (textF n) p.cs, t ∈ P) → (decide (p.k ≠ 4) = true → ip.nm ∈ P) → 0 ≤ ip.off → ip.off ≤ 999999999 → ip.nm.size ≤ 1000000000 → 0 ≤ p.off → p.off ≤ 999999999 → p.nm.size ≤ 1000000000 →
  Nums D P → bulkC (bulkF n) p.cs ≤ 60000 → acc.length + lenP (lenF n) p ≤ 9000000 → St w g mb B m D bv acc →
  Calls Tryz.prog 69 #[.pointer (some ⟨g, 0, none⟩), .int .u8 p.k, .agg #[.int .i64 p.k, .string p.tx, .string p.nm, .string p.ty, .string p.st, .int .i64 p.off, cv], .agg #[.int .i64 ip.k, .string ip.tx, .string ip.nm, .string ip.ty, .string ip.st, .int .i64 ip.off, .slice IA im ic]] w
    fun e w' => e = .returned (.tuple #[]) ∧ ∃ bv', Stp w g mb B m D bv w' bv' (acc ++ chW P (codF P n (ip.nm, ip.off)) (lenF n) acc.length p)
theorem rightL_at {R : List PT → Bool → Bool} {h : Bool} : ∀ {l : List PT} {q : Int} {k : Nat} {p : PT}, rightL R h q l = true → l[k]? = some p → plainB p h = true ∧ caseR (fun m => R m (decide (p.k ≠ 4))) p.k [] p.cs = true
  | [], _, _, _, _, hk => by simp at hk
  | x :: l, q, 0, p, hr, hk => by
    simp only [rightL, Bool.and_eq_true] at hr
    simp only [List.getElem?_cons_zero, Option.some.injEq] at hk
    subst hk
    exact ⟨hr.1.1.1.1, hr.1.1.2⟩
  | x :: l, q, k + 1, p, hr, hk => by
    simp only [rightL, Bool.and_eq_true] at hr
    exact rightL_at hr.2 (by simpa using hk)
theorem codL_take {P : List ByteArray} {E : InP → Nat → List PT → List UInt8} {L : List PT → Nat} {q : InP} {p : PT} : ∀ {l : List PT} {k a : Nat}, l[k]? = some p → codL P E L q a (l.take (k + 1)) = codL P E L q a (l.take k) ++ codP P E L q (a + lenL L (l.take k)) p
  | [], _, _, h => by simp at h
  | x :: l, 0, a, h => by
    simp only [List.getElem?_cons_zero, Option.some.injEq] at h
    subst h
    simp [codL, lenL]
  | x :: l, k + 1, a, h => by
    simp only [List.take_succ_cons, codL, lenL, List.append_assoc]
    rw [codL_take (by simpa using h), Nat.add_assoc]
theorem lenL_take {L : List PT → Nat} {p : PT} : ∀ {l : List PT} {k : Nat}, l[k]? = some p → lenL L (l.take (k + 1)) = lenL L (l.take k) + lenP L p
  | [], _, h => by simp at h
  | x :: l, 0, h => by
    simp only [List.getElem?_cons_zero, Option.some.injEq] at h
    subst h
    simp [lenL]
  | x :: l, k + 1, h => by
    simp only [List.take_succ_cons, lenL]
    rw [lenL_take (by simpa using h)]
    omega
theorem lenL_take_le (L : List PT → Nat) : ∀ (l : List PT) (k : Nat), lenL L (l.take k) ≤ lenL L l
  | [], k => by simp
  | x :: l, 0 => Nat.zero_le _
  | x :: l, k + 1 => by
    have := lenL_take_le L l k
    simp only [List.take_succ_cons, lenL]
    omega
theorem textL_at {T : List PT → List ByteArray} {p : PT} {t : ByteArray} : ∀ {l : List PT} {k : Nat}, l[k]? = some p → t ∈ partT T p → t ∈ textL T l
  | [], _, h, _ => by simp at h
  | x :: l, 0, h, ht => by
    simp only [List.getElem?_cons_zero, Option.some.injEq] at h
    subst h
    exact List.mem_append_left _ ht
  | x :: l, k + 1, h, ht => List.mem_append_right _ (textL_at (by simpa using h) ht)
set_option maxRecDepth 100000 in
set_option maxHeartbeats 8000000 in
theorem parts_step (n : Nat) (ihC : ChC n) : PaC (n + 1) := by
  intro l h ip IA im ic S v P D g mb B m bv acc w hL hS hBg hBw hr ht hh hq0 hq1 hnsz hN hb hlen hSt
  obtain ⟨A, cap, rfl, hml, hat⟩ := lies_openS hL
  have HAT := Lib.hid hat
  have HIC := Lib.hid ihC
  have HSS := Lib.hid hS
  have HR := Lib.hid (show rightL (rightF n) h 0 l = true from hr)
  have HT : Hid (∀ t ∈ textL (textF n) l, t ∈ P) := ht
  have HH := Lib.hid hh
  have HN := Lib.hid hN
  have HST := Lib.hid hSt
  have hbl : bulkL (bulkF n) l ≤ 60000 := hb
  have hln : acc.length + lenL (lenF n) l ≤ 9000000 := hlen
  have hll : l.length ≤ 60000 := by have := bulkL_len (bulkF n) l; omega
  have hgl := hSt.wr.blk.lt
  have hvl := Lib.hid (fun x hx => (hSt.wr.own.lt x hx).2)
  clear hL hat hS hr ht hh hN hb hlen hSt ihC hml
  go_enter Tryz.func49, Tryz.ntmps49
  go_wp2
  have hI0 : Blk (w.alloc (.cells #[.int .i64 ip.k, .string ip.tx, .string ip.nm, .string ip.ty, .string ip.st, .int .i64 ip.off, .slice IA im ic] 68)) w.heap.size 68 #[.int .i64 ip.k, .string ip.tx, .string ip.nm, .string ip.ty, .string ip.st, .int .i64 ip.off, .slice IA im ic] := Blk.new _ _ _
  have hK0 : Keep [] w (w.alloc (.cells #[.int .i64 ip.k, .string ip.tx, .string ip.nm, .string ip.ty, .string ip.st, .int .i64 ip.off, .slice IA im ic] 68)) := (Keep.refl [] w).alloc _
  have hS0 := HST.out.alloc (.cells #[.int .i64 ip.k, .string ip.tx, .string ip.nm, .string ip.ty, .string ip.st, .int .i64 ip.off, .slice IA im ic] 68)
  generalize w.alloc (.cells #[.int .i64 ip.k, .string ip.tx, .string ip.nm, .string ip.ty, .string ip.st, .int .i64 ip.off, .slice IA im ic] 68) = W0 at *
  obtain ⟨ib, hib⟩ : ∃ ib, w.heap.size = ib := ⟨_, rfl⟩
  rw [hib] at hI0 ⊢
  have hgi : g ≠ ib := by omega
  have hvi : Hid (∀ x ∈ bv.ownBlock.toList, x ≠ ib) := fun x hx => by have := hvl.out x hx; omega
  have HIB := Lib.hid hib
  have HI0 := Lib.hid hI0
  have HK0 := Lib.hid hK0
  have HS0 := Lib.hid hS0
  have hz0 := hK0.size
  rw [hib] at hz0 hgl hBw
  clear hib hI0 hK0 hS0
  go_loopw [10] (fun i wr => ∃ (k : Nat) (bv' : Value), k ≤ l.length ∧ i = .int .i64 k ∧ Stp W0 g mb B m D bv wr bv' (acc ++ codL P (codF P n) (lenF n) (ip.nm, ip.off) acc.length (l.take k))) (fun i _ => l.length - (intOf i).toNat)
  case atStart => exact ⟨0, bv, Nat.zero_le _, rfl, by simpa [codL] using Stp.refl HS0.out⟩
  case round =>
    obtain ⟨k, bw, hk, rfl, hst⟩ := hrel
    by_cases hlt : k < l.length
    · obtain ⟨p, hp⟩ : ∃ p, l[k]? = some p := ⟨_, List.getElem?_eq_getElem hlt⟩
      obtain ⟨bb, o, cv, rfl, hSb, hbb, hP, hC⟩ := HAT.out k p hp
      have hkw : Keep (g :: bv.ownBlock.toList) w wr := (HK0.out.mono (fun x hx => by cases hx)).same hst.2.2
      have hnb : bb ∉ g :: bv.ownBlock.toList := fun hc => by
        have h1 := HSS.out bb hSb
        rcases List.mem_cons.1 hc with hc | hc
        · omega
        · have := (HST.out.wr.own.lt bb hc).1; omega
      obtain ⟨a0, a1, a2, a3, a4, a5, a6⟩ := hP.keepB hkw hbb hnb
      have hC1 := hC.keep hkw (fun x hx hc => by
        have h1 := HSS.out x hc
        rcases List.mem_cons.1 hx with hx | hx
        · omega
        · have := (HST.out.wr.own.lt x hx).1; omega)
      obtain ⟨Ac, cc, rfl⟩ := hC1.formL
      obtain ⟨hpl, hcr⟩ := rightL_at HR.out hp
      have HPT : Hid (∀ t ∈ partT (textF n) p, t ∈ P) := fun t hx => HT.out t (textL_at hp hx)
      have HCT : Hid (codL P (codF P n) (lenF n) (ip.nm, ip.off) acc.length (l.take (k + 1)) = _) := codL_take hp
      have hlt1 := lenL_take (L := lenF n) hp
      have hlt2 := lenL_take_le (lenF n) l (k + 1)
      have hbt := bulkL_takeS (K := bulkF n) hp
      have hbe := bulkL_take_le (bulkF n) l (k + 1)
      have HLA : Hid ((acc ++ codL P (codF P n) (lenF n) (ip.nm, ip.off) acc.length (l.take k)).length = acc.length + lenL (lenF n) (l.take k)) := by
        unfold Hid
        rw [List.length_append, codL_len (codF_len P n)]
      obtain ⟨L1, hL1⟩ : ∃ L1, acc ++ codL P (codF P n) (lenF n) (ip.nm, ip.off) acc.length (l.take k) = L1 := ⟨_, rfl⟩
      have HFIN : Hid (acc ++ codL P (codF P n) (lenF n) (ip.nm, ip.off) acc.length (l.take (k + 1)) = L1 ++ codP P (codF P n) (lenF n) (ip.nm, ip.off) L1.length p) := by
        unfold Hid
        rw [HCT.out, ← List.append_assoc, hL1, ← hL1, HLA.out]
      have hL1l : L1.length = acc.length + lenL (lenF n) (l.take k) := by rw [← hL1]; exact HLA.out
      rw [hL1] at hst
      have hbr := Nat.lt_of_lt_of_le hbb hkw.size
      have hll1 : L1.length + lenP (lenF n) p ≤ 9000000 := by omega
      have hbp : p.tx.size + p.nm.size + p.ty.size + p.st.size + bulkC (bulkF n) p.cs ≤ 60000 := by omega
      have HI := Lib.hid (HI0.out.keep hst.2.2 (fun hc => by
        rcases List.mem_cons.1 hc with hc | hc
        · exact hgi hc.symm
        · exact hvi.out ib hc rfl))
      have HSTP := Lib.hid hst
      have HC1 := Lib.hid hC1
      have HPL := Lib.hid hpl
      have HCR := Lib.hid hcr
      have hgr := hst.1.wr.blk.lt
      have hzr := hst.2.2.size
      clear hP hC hC1 hp hkw hst hL1 hlt1 hlt2 hbt hbe HLA HCT hpl hcr hL1l
      go_upto_region 5 with fail
      have hX : Blk (wr.alloc (.cells #[.int .i64 p.k, .string p.tx, .string p.nm, .string p.ty, .string p.st, .int .i64 p.off, .slice Ac p.cs.length cc] 68)) wr.heap.size 68 #[.int .i64 p.k, .string p.tx, .string p.nm, .string p.ty, .string p.st, .int .i64 p.off, .slice Ac p.cs.length cc] := Blk.new _ _ _
      have hK1 : Keep [] wr (wr.alloc (.cells #[.int .i64 p.k, .string p.tx, .string p.nm, .string p.ty, .string p.st, .int .i64 p.off, .slice Ac p.cs.length cc] 68)) := (Keep.refl [] wr).alloc _
      have hS1 := HSTP.out.1.alloc (.cells #[.int .i64 p.k, .string p.tx, .string p.nm, .string p.ty, .string p.st, .int .i64 p.off, .slice Ac p.cs.length cc] 68)
      have hI1 := HI.out.keep hK1 (by simp)
      have hC1 := HC1.out.keep hK1 (by simp)
      generalize wr.alloc (.cells #[.int .i64 p.k, .string p.tx, .string p.nm, .string p.ty, .string p.st, .int .i64 p.off, .slice Ac p.cs.length cc] 68) = W1 at *
      obtain ⟨pb, hpb⟩ : ∃ pb, wr.heap.size = pb := ⟨_, rfl⟩
      rw [hpb] at hX ⊢
      have hgp : g ≠ pb := by omega
      have hil := HI0.out.lt
      have hip : ib ≠ pb := by omega
      have hbp2 : Hid (∀ x ∈ bw.ownBlock.toList, x ≠ pb) := fun x hx => by have := (HSTP.out.1.wr.own.lt x hx).2; omega
      have hbi2 : Hid (∀ x ∈ bw.ownBlock.toList, x ≠ ib) := fun x hx => by
        rcases HSTP.out.2.1 x hx with hx | hx
        · exact hvi.out x hx
        · omega
      have hB1 : B ≤ W1.heap.size := by have := hK1.size; omega
      have hg1 : g < W1.heap.size := by have := hK1.size; omega
      have HX := Lib.hid hX
      have HK1 := Lib.hid hK1
      have HS1 := Lib.hid hS1
      have HI1 := Lib.hid hI1
      have HCC := Lib.hid hC1
      obtain ⟨c0, c1, f1⟩ := hS1.cells
      obtain ⟨Ab, mbb, cb, rfl⟩ := hS1.wr.own.formM
      clear hX hK1 hS1 hI1 hC1 a0 a1 a2 a3 a4 a5 a6 hpb HC1 HI hbr
      by_cases h1 : p.k = 1
      · have k1 : (p.k == 1) = true := by simp [h1]
        have HP1 : Hid (codP P (codF P n) (lenF n) (ip.nm, ip.off) L1.length p = [1] ++ w16 (idxT P p.tx)) := by unfold Hid codP; rw [if_pos h1]; rfl
        have htx : p.tx ∈ P := HPT.out _ (by unfold partT; rw [if_pos h1]; simp)
        have hix := idxT_lt htx
        have hPl := HN.out.len
        clear h1
        go_wp2_with (at_builtin; refine wpList_append_b rfl _ _ rfl rfl HS1.out.wr.own 1 1 rfl rfl (by omega) hB1 ?_; intro v' w' ho hk hl; have hb1 := HS1.out.wr.blk.keep hk (fun hx => HS1.out.wr.ne g hx rfl); have d1 := Blk.cell_eq (i := 1) hb1 rfl; have z1 := hb1.frozen 1; obtain ⟨A2, m2, c2, rfl⟩ := ho.formM; have HST2 := Lib.hid (St.store HS1.out ho hk hl); clear ho hk hl hb1)
        obtain ⟨hX2, hpn⟩ := HST2.out.carry HX.out hgp.symm (fun hc => hbp2.out pb hc rfl)
        obtain ⟨hI2, hin⟩ := HST2.out.carry HI1.out hgi.symm (fun hc => hbi2.out ib hc rfl)
        have HX2 := Lib.hid hX2
        have HI2 := Lib.hid hI2
        have HPN := Lib.hid hpn
        have HIN := Lib.hid hin
        clear hX2 hI2 hpn hin
        generalize w'.setCell ⟨g, 1, none⟩ (.slice A2 m2 c2) = W2 at *
        have e0 := HST2.out.1.cells.1
        have hB2 : B ≤ W2.heap.size := by have := HST2.out.2.2.size; omega
        have e1 : W2.cell? ⟨pb, 1, none⟩ = some (.string p.tx) := HX2.out.cell_eq rfl
        have hlk := HST2.out.1.look HN.out htx (by omega)
        have HA := Lib.hid ((HST2.out.1.alloc (.cells #[.int .i64 (idxT P p.tx : Nat)] 3)).drew)
        have HXA := Lib.hid (Blk.drew (Blk.alloc HX2.out (.cells #[.int .i64 (idxT P p.tx : Nat)] 3)))
        have HIA := Lib.hid (Blk.drew (Blk.alloc HI2.out (.cells #[.int .i64 (idxT P p.tx : Nat)] 3)))
        have HW := Lib.hid (word_st (W2.alloc (.cells #[.int .i64 (idxT P p.tx : Nat)] 3)).drew [idxT P p.tx] (.slice (some ⟨W2.heap.size, 0, none⟩) 1 1) HA.out (by simp; omega) (RdC.keep (bs := []) (new_nums W2 [idxT P p.tx] (by simp [maxLen])) (Keep.drew (Keep.refl _ _)) (by simp)) (fun A m c he b o hb => by
          injection he with he
          rw [← he] at hb
          injection hb with hb
          injection hb with hb
          rw [← hb]
          have := HST2.out.1.wr.blk.lt
          omega) (by simp; omega) (by simp) (by simp) (by simp; omega))
        clear c0 c1 f1 d1 z1
        have f0 := HA.out.cells.1
        have f1 : (W2.alloc (.cells #[.int .i64 (idxT P p.tx : Nat)] 3)).drew.cell? ⟨pb, 1, none⟩ = some (.string p.tx) := HXA.out.cell_eq rfl
        have f2 := HA.out.look HN.out htx (by omega)
        go_region_held3 (fun W => W.cell? ⟨g, 0, none⟩ = some (.map (some mb)) ∧ W.cell? ⟨pb, 1, none⟩ = some (.string p.tx) ∧ (Instr.lookup 98 (.map (some mb)) (.string p.tx) false).run Tryz.prog W = .ok (.int .i64 (idxT P p.tx)) W) (first | exact ⟨e0, e1, hlk⟩ | exact ⟨f0, f1, f2⟩ | exact ⟨q0, q1, q2⟩ | exact ⟨e0, e1, HST2.out.1.drew.look HN.out htx (by omega)⟩) (first | (go_at_call 50; refine HW.out.mono ?_; rintro e w5 ⟨rfl, v5, hst5⟩; have q0 := hst5.1.cells.1; have q1 : w5.cell? ⟨pb, 1, none⟩ = some (.string p.tx) := (hst5.carry HXA.out hgp.symm HPN.out).1.cell_eq rfl; have q2 := hst5.1.look HN.out htx (by omega); have HST5 := Lib.hid hst5; clear hst5))
        have HF := Lib.hid (HSTP.out.trans (Stp.ahead HK1.out (HST2.out.trans (Stp.ahead (((Keep.refl [] W2).alloc (.cells #[.int .i64 (idxT P p.tx : Nat)] 3)).drew) HST5.out))))
        go_wp2
        go_roundw
        case rel => exact ⟨k + 1, v5, by omega, by go_num, by rw [HFIN.out, HP1.out]; simpa using HF.out⟩
        case measure => simp [intOf]; omega
      · have k1 : (p.k == 1) = false := by simp [h1]
        by_cases h2 : p.k = 2
        · have k2 : (p.k == 2) = true := by simp [h2]
          have HP1 : Hid (codP P (codF P n) (lenF n) (ip.nm, ip.off) L1.length p = [2] ++ w16 (idxT P ip.nm) ++ w32 ip.off.toNat) := by unfold Hid codP; rw [if_neg h1, if_pos h2]; rfl
          have htx : ip.nm ∈ P := HH.out (plain_t2 HPL.out h2).2
          have hix := idxT_lt htx
          have hPl := HN.out.len
          have hln2 : L1.length + 7 ≤ 9000000 := by unfold lenP at hll1; rw [if_neg h1, if_pos h2] at hll1; exact hll1
          clear h1 h2
          go_wp2_with (at_builtin; refine wpList_append_b rfl _ _ rfl rfl HS1.out.wr.own 2 2 rfl rfl (by omega) hB1 ?_; intro v' w' ho hk hl; have hb1 := HS1.out.wr.blk.keep hk (fun hx => HS1.out.wr.ne g hx rfl); have d1 := Blk.cell_eq (i := 1) hb1 rfl; have z1 := hb1.frozen 1; obtain ⟨A2, m2, c2, rfl⟩ := ho.formM; have HST2 := Lib.hid (St.store HS1.out ho hk hl); clear ho hk hl hb1)
          obtain ⟨hX2, hpn⟩ := HST2.out.carry HX.out hgp.symm (fun hc => hbp2.out pb hc rfl)
          obtain ⟨hI2, hin⟩ := HST2.out.carry HI1.out hgi.symm (fun hc => hbi2.out ib hc rfl)
          have HX2 := Lib.hid hX2
          have HI2 := Lib.hid hI2
          have HPN := Lib.hid hpn
          have HIN := Lib.hid hin
          clear hX2 hI2 hpn hin
          generalize w'.setCell ⟨g, 1, none⟩ (.slice A2 m2 c2) = W2 at *
          have e0 := HST2.out.1.cells.1
          have hB2 : B ≤ W2.heap.size := by have := HST2.out.2.2.size; omega
          have e1 : W2.cell? ⟨ib, 2, none⟩ = some (.string ip.nm) := HI2.out.cell_eq rfl
          have hlk := HST2.out.1.look HN.out htx hnsz
          have HA := Lib.hid ((HST2.out.1.alloc (.cells #[.int .i64 (idxT P ip.nm : Nat)] 3)).drew)
          have HXA := Lib.hid (Blk.drew (Blk.alloc HX2.out (.cells #[.int .i64 (idxT P ip.nm : Nat)] 3)))
          have HIA := Lib.hid (Blk.drew (Blk.alloc HI2.out (.cells #[.int .i64 (idxT P ip.nm : Nat)] 3)))
          have HW := Lib.hid (word_st (W2.alloc (.cells #[.int .i64 (idxT P ip.nm : Nat)] 3)).drew [idxT P ip.nm] (.slice (some ⟨W2.heap.size, 0, none⟩) 1 1) HA.out (by simp; omega) (RdC.keep (bs := []) (new_nums W2 [idxT P ip.nm] (by simp [maxLen])) (Keep.drew (Keep.refl _ _)) (by simp)) (fun A m c he b o hb => by
            injection he with he
            rw [← he] at hb
            injection hb with hb
            injection hb with hb
            rw [← hb]
            have := HST2.out.1.wr.blk.lt
            omega) (by simp; omega) (by simp) (by simp) (by simp; omega))
          clear c0 c1 f1 d1 z1
          have f0 := HA.out.cells.1
          have f1 : (W2.alloc (.cells #[.int .i64 (idxT P ip.nm : Nat)] 3)).drew.cell? ⟨ib, 2, none⟩ = some (.string ip.nm) := HIA.out.cell_eq rfl
          have f2 := HA.out.look HN.out htx hnsz
          go_region_held3 (fun W => W.cell? ⟨g, 0, none⟩ = some (.map (some mb)) ∧ W.cell? ⟨ib, 2, none⟩ = some (.string ip.nm) ∧ (Instr.lookup 98 (.map (some mb)) (.string ip.nm) false).run Tryz.prog W = .ok (.int .i64 (idxT P ip.nm)) W) (first | exact ⟨e0, e1, hlk⟩ | exact ⟨f0, f1, f2⟩ | exact ⟨q0, q1, q2⟩ | exact ⟨e0, e1, HST2.out.1.drew.look HN.out htx hnsz⟩) (first | (go_at_call 50; refine HW.out.mono ?_; rintro e w5 ⟨rfl, v5, hst5⟩; have q0 := hst5.1.cells.1; have q1 : w5.cell? ⟨ib, 2, none⟩ = some (.string ip.nm) := (hst5.carry HIA.out hgi.symm HIN.out).1.cell_eq rfl; have q2 := hst5.1.look HN.out htx hnsz; have q5 : w5.cell? ⟨ib, 5, none⟩ = some (.int .i64 ip.off) := (hst5.carry HIA.out hgi.symm HIN.out).1.cell_eq rfl; have HST5 := Lib.hid hst5; clear hst5))
          have HPC := Lib.hid (place_st w5 ip.off.toNat HST5.out.1 (by have := HST5.out.2.2.size; simp at this; omega) (by simp [w16_len]; omega) (by omega))
          rw [Int.toNat_of_nonneg hq0] at HPC
          go_wp2_with (go_at_call 51; refine HPC.out.mono ?_; rintro e w6 ⟨rfl, v6, hst6⟩; have HST6 := Lib.hid hst6; clear hst6)
          have HF := Lib.hid ((HSTP.out.trans (Stp.ahead HK1.out (HST2.out.trans (Stp.ahead (((Keep.refl [] W2).alloc (.cells #[.int .i64 (idxT P ip.nm : Nat)] 3)).drew) HST5.out)))).trans HST6.out)
          go_roundw
          case rel => exact ⟨k + 1, v6, by omega, by go_num, by rw [HFIN.out, HP1.out]; simpa using HF.out⟩
          case measure => simp [intOf]; omega
        · have k2 : (p.k == 2) = false := by simp [h2]
          by_cases h3 : p.k = 3
          · have k3 : (p.k == 3) = true := by simp [h3]
            have HP1 : Hid (codP P (codF P n) (lenF n) (ip.nm, ip.off) L1.length p = [3] ++ (w16 (idxT P p.nm) ++ w16 (optI P p.ty) ++ w16 (optI P p.st))) := by unfold Hid codP; rw [if_neg h1, if_neg h2, if_pos h3]; rfl
            have hpt : partT (textF n) p = p.nm :: (optT p.ty ++ optT p.st) := by unfold partT; rw [if_neg h1, if_neg h2, if_pos h3]
            have htx : p.nm ∈ P := HPT.out _ (by rw [hpt]; simp)
            have hty : noB p.ty = false → p.ty ∈ P := fun hn => HPT.out _ (by rw [hpt]; simp [optT, hn])
            have hst : noB p.st = false → p.st ∈ P := fun hn => HPT.out _ (by rw [hpt]; simp [optT, hn])
            have hix := idxT_lt htx
            have hPl := HN.out.len
            have hoi : ∀ s, (noB s = false → s ∈ P) → optI P s < 65536 := fun s hs => by
              unfold optI
              split
              · decide
              · rename_i hn
                have := idxT_lt (hs (by simpa using hn))
                omega
            have ho1 := hoi _ hty
            have ho2 := hoi _ hst
            have HOT : ∀ W v l', St W g mb B m D v l' → Hid (Calls Tryz.prog 68 #[.pointer (some ⟨g, 0, none⟩), .string p.ty] W fun e w' => e = .returned (.int .i64 (optI P p.ty)) ∧ W = w') := fun W v l' hW => opt_any W g mb B m v l' D P p.ty hW.wr hW.mp (by omega) (fun hn => HN.out.val _ (hty hn))
            have HOS : ∀ W v l', St W g mb B m D v l' → Hid (Calls Tryz.prog 68 #[.pointer (some ⟨g, 0, none⟩), .string p.st] W fun e w' => e = .returned (.int .i64 (optI P p.st)) ∧ W = w') := fun W v l' hW => opt_any W g mb B m v l' D P p.st hW.wr hW.mp (by omega) (fun hn => HN.out.val _ (hst hn))
            clear h1 h2 h3 hpt hty hst hoi
            go_wp2_with (at_builtin; refine wpList_append_b rfl _ _ rfl rfl HS1.out.wr.own 3 3 rfl rfl (by omega) hB1 ?_; intro v' w' ho hk hl; have hb1 := HS1.out.wr.blk.keep hk (fun hx => HS1.out.wr.ne g hx rfl); have d1 := Blk.cell_eq (i := 1) hb1 rfl; have z1 := hb1.frozen 1; obtain ⟨A2, m2, c2, rfl⟩ := ho.formM; have HST2 := Lib.hid (St.store HS1.out ho hk hl); clear ho hk hl hb1)
            obtain ⟨hX2, hpn⟩ := HST2.out.carry HX.out hgp.symm (fun hc => hbp2.out pb hc rfl)
            obtain ⟨hI2, hin⟩ := HST2.out.carry HI1.out hgi.symm (fun hc => hbi2.out ib hc rfl)
            have HX2 := Lib.hid hX2
            have HI2 := Lib.hid hI2
            have HPN := Lib.hid hpn
            have HIN := Lib.hid hin
            clear hX2 hI2 hpn hin
            generalize w'.setCell ⟨g, 1, none⟩ (.slice A2 m2 c2) = W2 at *
            have e0 := HST2.out.1.cells.1
            have hB2 : B ≤ W2.heap.size := by have := HST2.out.2.2.size; omega
            have e2 : W2.cell? ⟨pb, 2, none⟩ = some (.string p.nm) := HX2.out.cell_eq rfl
            have e3 : W2.cell? ⟨pb, 3, none⟩ = some (.string p.ty) := HX2.out.cell_eq rfl
            have e4 : W2.cell? ⟨pb, 4, none⟩ = some (.string p.st) := HX2.out.cell_eq rfl
            have hlk := HST2.out.1.look HN.out htx (by omega)
            generalize optI P p.ty = i2 at *
            generalize optI P p.st = i3 at *
            have HA := Lib.hid ((HST2.out.1.alloc (.cells #[.int .i64 (idxT P p.nm : Nat), .int .i64 (i2 : Nat), .int .i64 (i3 : Nat)] 3)).drew)
            have HXA := Lib.hid (Blk.drew (Blk.alloc HX2.out (.cells #[.int .i64 (idxT P p.nm : Nat), .int .i64 (i2 : Nat), .int .i64 (i3 : Nat)] 3)))
            have HIA := Lib.hid (Blk.drew (Blk.alloc HI2.out (.cells #[.int .i64 (idxT P p.nm : Nat), .int .i64 (i2 : Nat), .int .i64 (i3 : Nat)] 3)))
            have HW := Lib.hid (word_st (W2.alloc (.cells #[.int .i64 (idxT P p.nm : Nat), .int .i64 (i2 : Nat), .int .i64 (i3 : Nat)] 3)).drew [idxT P p.nm, i2, i3] (.slice (some ⟨W2.heap.size, 0, none⟩) 3 3) HA.out (by simp; omega) (RdC.keep (bs := []) (new_nums W2 [idxT P p.nm, i2, i3] (by simp [maxLen])) (Keep.drew (Keep.refl _ _)) (by simp)) (fun A m c he b o hb => by
              injection he with he
              rw [← he] at hb
              injection hb with hb
              injection hb with hb
              rw [← hb]
              have := HST2.out.1.wr.blk.lt
              omega) (by simp; omega) (by simp) (by simp) (by simp; omega))
            clear c0 c1 f1 d1 z1
            have f0 := HA.out.cells.1
            have f2 : (W2.alloc (.cells #[.int .i64 (idxT P p.nm : Nat), .int .i64 (i2 : Nat), .int .i64 (i3 : Nat)] 3)).drew.cell? ⟨pb, 2, none⟩ = some (.string p.nm) := HXA.out.cell_eq rfl
            have f3 : (W2.alloc (.cells #[.int .i64 (idxT P p.nm : Nat), .int .i64 (i2 : Nat), .int .i64 (i3 : Nat)] 3)).drew.cell? ⟨pb, 3, none⟩ = some (.string p.ty) := HXA.out.cell_eq rfl
            have f4 : (W2.alloc (.cells #[.int .i64 (idxT P p.nm : Nat), .int .i64 (i2 : Nat), .int .i64 (i3 : Nat)] 3)).drew.cell? ⟨pb, 4, none⟩ = some (.string p.st) := HXA.out.cell_eq rfl
            have f5 := HA.out.look HN.out htx (by omega)
            go_region_held3 (fun W => W.cell? ⟨g, 0, none⟩ = some (.map (some mb)) ∧ W.cell? ⟨pb, 2, none⟩ = some (.string p.nm) ∧ W.cell? ⟨pb, 3, none⟩ = some (.string p.ty) ∧ W.cell? ⟨pb, 4, none⟩ = some (.string p.st) ∧ (Instr.lookup 98 (.map (some mb)) (.string p.nm) false).run Tryz.prog W = .ok (.int .i64 (idxT P p.nm)) W) (first | exact ⟨e0, e2, e3, e4, hlk⟩ | exact ⟨f0, f2, f3, f4, f5⟩ | exact ⟨q0, q2, q3, q4, q5⟩ | exact ⟨e0, e2, e3, e4, HST2.out.1.drew.look HN.out htx (by omega)⟩) (first
              | (go_at_call_of 68 (Value.string p.ty); refine (HOT _ _ _ (by first | exact HST2.out.1 | exact HST2.out.1.drew)).out.mono ?_; rintro e w5 ⟨rfl, rfl⟩)
              | (go_at_call_of 68 (Value.string p.st); refine (HOS _ _ _ (by first | exact HST2.out.1 | exact HST2.out.1.drew)).out.mono ?_; rintro e w5 ⟨rfl, rfl⟩)
              | (go_at_call 50; refine HW.out.mono ?_; rintro e w5 ⟨rfl, v5, hst5⟩; have q0 := hst5.1.cells.1; have hc5 := (hst5.carry HXA.out hgp.symm HPN.out).1; have q2 : w5.cell? ⟨pb, 2, none⟩ = some (.string p.nm) := hc5.cell_eq rfl; have q3 : w5.cell? ⟨pb, 3, none⟩ = some (.string p.ty) := hc5.cell_eq rfl; have q4 : w5.cell? ⟨pb, 4, none⟩ = some (.string p.st) := hc5.cell_eq rfl; have q5 := hst5.1.look HN.out htx (by omega); have HST5 := Lib.hid hst5; clear hst5 hc5))
            all_goals
              have HF := Lib.hid (HSTP.out.trans (Stp.ahead HK1.out (HST2.out.trans (Stp.ahead (((Keep.refl [] W2).alloc (.cells #[.int .i64 (idxT P p.nm : Nat), .int .i64 (i2 : Nat), .int .i64 (i3 : Nat)] 3)).drew) HST5.out))))
              go_wp2
              go_roundw
              case rel => exact ⟨k + 1, v5, by omega, by go_num, by rw [HFIN.out, HP1.out]; simpa using HF.out⟩
              case measure => simp [intOf]; omega
          · have k3 : (p.k == 3) = false := by simp [h3]
            have h456 : p.k = 4 ∨ p.k = 5 ∨ p.k = 6 := by
              rcases plain_k HPL.out with h | h | h | h
              · exact absurd h h1
              · exact absurd h h2
              · exact absurd h h3
              · exact h
            obtain ⟨-, ho0, ho1⟩ := plain_t4 HPL.out h456
            have hpt : partT (textF n) p = p.nm :: caseT (textF n) p.cs := by unfold partT; rw [if_neg h1, if_neg h2, if_neg h3]
            have hnm : p.nm ∈ P := HPT.out _ (by rw [hpt]; simp)
            have hct : ∀ t ∈ caseT (textF n) p.cs, t ∈ P := fun t hx => HPT.out _ (by rw [hpt]; simp [hx])
            have HCH := fun (jp : PT) (JA : Option Addr) (jm jc : Nat) (hj : decide (p.k ≠ 4) = true → jp.nm ∈ P) (hj0 : 0 ≤ jp.off) (hj1 : jp.off ≤ 999999999) (hj2 : jp.nm.size ≤ 1000000000) => Lib.hid (HIC.out p jp (.slice Ac p.cs.length cc) JA jm jc S P D g mb B m _ L1 W1 HCC.out HSS.out hBg hB1 h456 HCR.out hnm hct hj hj0 hj1 hj2 ho0 ho1 (by omega) HN.out (by omega) hll1 HS1.out)
            have HP1 : Hid (codP P (codF P n) (lenF n) (ip.nm, ip.off) L1.length p = chW P (codF P n (inQ (ip.nm, ip.off) p)) (lenF n) L1.length p) := by unfold Hid codP; rw [if_neg h1, if_neg h2, if_neg h3]; rfl
            have x0 : W1.cell? ⟨pb, 0, none⟩ = some (.int .i64 p.k) := HX.out.cell_eq rfl
            have x1 : W1.cell? ⟨pb, 1, none⟩ = some (.string p.tx) := HX.out.cell_eq rfl
            have x2 : W1.cell? ⟨pb, 2, none⟩ = some (.string p.nm) := HX.out.cell_eq rfl
            have x3 : W1.cell? ⟨pb, 3, none⟩ = some (.string p.ty) := HX.out.cell_eq rfl
            have x4 : W1.cell? ⟨pb, 4, none⟩ = some (.string p.st) := HX.out.cell_eq rfl
            have x5 : W1.cell? ⟨pb, 5, none⟩ = some (.int .i64 p.off) := HX.out.cell_eq rfl
            have x6 : W1.cell? ⟨pb, 6, none⟩ = some (.slice Ac p.cs.length cc) := HX.out.cell_eq rfl
            have y0 : W1.cell? ⟨ib, 0, none⟩ = some (.int .i64 ip.k) := HI1.out.cell_eq rfl
            have y1 : W1.cell? ⟨ib, 1, none⟩ = some (.string ip.tx) := HI1.out.cell_eq rfl
            have y2 : W1.cell? ⟨ib, 2, none⟩ = some (.string ip.nm) := HI1.out.cell_eq rfl
            have y3 : W1.cell? ⟨ib, 3, none⟩ = some (.string ip.ty) := HI1.out.cell_eq rfl
            have y4 : W1.cell? ⟨ib, 4, none⟩ = some (.string ip.st) := HI1.out.cell_eq rfl
            have y5 : W1.cell? ⟨ib, 5, none⟩ = some (.int .i64 ip.off) := HI1.out.cell_eq rfl
            have y6 : W1.cell? ⟨ib, 6, none⟩ = some (.slice IA im ic) := HI1.out.cell_eq rfl
            clear h1 h2 h3 hpt
            rcases h456 with h4 | h4 | h4
            · have k4 : (p.k == 4) = true := by simp [h4]
              have hIn : inQ (ip.nm, ip.off) p = (ip.nm, ip.off) := by unfold inQ; rw [if_pos h4]
              have HCX := HCH ip IA im ic (fun hd => absurd h4 (by simpa using hd)) hq0 hq1 hnsz
              rw [hIn] at HP1
              rw [show Value.int .u8 p.k = .int .u8 4 by rw [h4]] at HCX
              clear HCH h4 hIn
              go_wp2_with (go_at_call 69; refine HCX.out.mono ?_; rintro e w6 ⟨rfl, v6, hst6⟩; have HST6 := Lib.hid hst6; clear hst6)
              have HF := Lib.hid (HSTP.out.trans (Stp.ahead HK1.out HST6.out))
              go_roundw
              case rel => exact ⟨k + 1, v6, by omega, by go_num, by rw [HFIN.out, HP1.out]; exact HF.out⟩
              case measure => simp [intOf]; omega
            · have k4 : (p.k == 4) = false := by simp [h4]
              have k5 : (p.k == 5) = true := by simp [h4]
              have hIn : inQ (ip.nm, ip.off) p = (p.nm, p.off) := by unfold inQ; rw [if_neg (by omega)]
              have HCX := HCH p Ac p.cs.length cc (fun _ => hnm) ho0 ho1 (by omega)
              rw [hIn] at HP1
              rw [show Value.int .u8 p.k = .int .u8 5 by rw [h4]] at HCX
              clear HCH h4 hIn
              go_wp2_with (go_at_call 69; refine HCX.out.mono ?_; rintro e w6 ⟨rfl, v6, hst6⟩; have HST6 := Lib.hid hst6; clear hst6)
              have HF := Lib.hid (HSTP.out.trans (Stp.ahead HK1.out HST6.out))
              go_roundw
              case rel => exact ⟨k + 1, v6, by omega, by go_num, by rw [HFIN.out, HP1.out]; exact HF.out⟩
              case measure => simp [intOf]; omega
            · have k4 : (p.k == 4) = false := by simp [h4]
              have k5 : (p.k == 5) = false := by simp [h4]
              have k6 : (p.k == 6) = true := by simp [h4]
              have hIn : inQ (ip.nm, ip.off) p = (p.nm, p.off) := by unfold inQ; rw [if_neg (by omega)]
              have HCX := HCH p Ac p.cs.length cc (fun _ => hnm) ho0 ho1 (by omega)
              rw [hIn] at HP1
              rw [show Value.int .u8 p.k = .int .u8 6 by rw [h4]] at HCX
              clear HCH h4 hIn
              go_wp2_with (go_at_call 69; refine HCX.out.mono ?_; rintro e w6 ⟨rfl, v6, hst6⟩; have HST6 := Lib.hid hst6; clear hst6)
              have HF := Lib.hid (HSTP.out.trans (Stp.ahead HK1.out HST6.out))
              go_roundw
              case rel => exact ⟨k + 1, v6, by omega, by go_num, by rw [HFIN.out, HP1.out]; exact HF.out⟩
              case measure => simp [intOf]; omega
    · obtain rfl : k = l.length := by omega
      go_wp2
      go_end0
      rw [List.take_length] at hst
      exact ⟨rfl, bw, Stp.ahead HK0.out hst⟩
end Go.Proofs.YtmfoiceofhcicaaGreatDoor
