/- Bytes in slices; walks: slices.Clone of bytes, octet.Put16, Put32. -/
import Derived.Test.YtmfoiceofhcicaaGreatDoorKE
import Derived.Lib.BufSteps
import Derived.Lib.SliceRun
namespace Go.Proofs.YtmfoiceofhcicaaGreatDoor
open Go.RowKit Go.IntWalk

def cellU (b : UInt8) : Value := .int .u8 b.toNat
theorem infoU : (Tryz.prog.info? 5).map (fun i => (i.zero, i.size, i.bytes)) = some (some (.int .u8 0), 1, 1) := by kernel_rfl
/-- A slice that reads as bytes. -/
def RdU (w : World) (v : Value) (l : List UInt8) : Prop := RdC (fun _ => True) w v l.length (l.map cellU)
/-- A slice of the call's own of bytes. -/
def OwnU (w : World) (B : Nat) (v : Value) (l : List UInt8) : Prop := w.ownsRow B 5 1 v l.length (l.map cellU)
section
variable {w w' : World} {B : Nat} {v : Value} {l : List UInt8} {bs : List Nat}
theorem OwnU.reads (h : OwnU w B v l) : RdU w v l := RdC.of_own (by simp) h (fun _ _ => trivial)
theorem OwnU.lt (h : OwnU w B v l) : ∀ x ∈ v.ownBlock.toList, B ≤ x ∧ x < w.heap.size := fun x hx => World.ownsRow.lt h x (by simpa using hx)
theorem OwnU.keep (h : OwnU w B v l) (hk : Keep bs w w') (hb : ∀ x ∈ v.ownBlock.toList, x ∉ bs) : OwnU w' B v l := ownsRow_keep h hk hb
theorem OwnU.nil (w : World) (B : Nat) : OwnU w B (.slice none 0 0) [] := World.ownsRow_nil w B _ 1
theorem RdU.keep (h : RdU w v l) (hk : Keep [] w w') : RdU w' v l := RdC.keep h hk (by simp)
theorem OwnU.alloc (h : OwnU w B v l) (o : Obj) : OwnU (w.alloc o) B v l := World.ownsRow.alloc h o
theorem OwnU.made (w : World) : OwnU (w.alloc (.cells #[] 5)) w.heap.size (.slice (some ⟨w.heap.size, 0, none⟩) 0 0) [] := World.ownsRow_made w #[] 0 (Nat.le_refl _) (Nat.zero_le _) (by simp)
theorem OwnU.form (h : OwnU w B v l) : ∃ A cap, v = .slice A l.length cap := by
  obtain ⟨A, cap, rfl, _⟩ := h.reads
  exact ⟨A, cap, rfl⟩
theorem OwnU.formM (h : OwnU w B v l) : ∃ A m cap, v = .slice A m cap := by
  obtain ⟨A, cap, rfl, _⟩ := h.reads
  exact ⟨A, _, cap, rfl⟩
theorem OwnU.le {B' : Nat} (h : OwnU w B v l) (hB : B' ≤ B) : OwnU w B' v l := by
  refine ⟨h.1, ?_⟩
  rcases h.2 with h | ⟨g, cap, cur, h1, h2, h3⟩
  · exact .inl h
  · exact .inr ⟨g, cap, cur, h1, Nat.le_trans hB h2, h3⟩
theorem new_cellsU (w : World) (n : Nat) (hn : w.heap.size = n) (xs : List Value) (t : TypeId) : ∀ j u, xs[j]? = some u → (w.alloc (.cells xs.toArray t)).cell? ((⟨n, 0, none⟩ : Addr).add j) = some u := by
  intro j u hu
  have hadd : (⟨n, 0, none⟩ : Addr).add j = ⟨n, j, none⟩ := by unfold Addr.add; split <;> simp_all
  rw [hadd]
  exact (Blk.new' w t xs.toArray n hn).cell_eq (by simpa using hu)
/-- append of bytes to bytes of the call's own. -/
theorem wpList_append_us {ops : Array Oper} {rest : List Oper} {o : Oper} {a : Act} {Q : Exit → Act → World → Prop} (hgd : o.guard = none) (s x : Operand)
    (ho : o.op = .call { callee := .builtin .append, args := #[s, x], argTypes := #[25, 25] })
    (hs : a.eval s = v) (hown : OwnU w B v l) (ys : List UInt8) (ad : Addr) (cap : Nat) (hx : a.eval x = .slice (some ad) ys.length cap) (hc : ∀ j u, (ys.map cellU)[j]? = some u → w.cell? (ad.add j) = some u)
    (hlen : l.length + ys.length ≤ 1000000000000) (hB : B ≤ w.heap.size)
    (h : ∀ v' w', OwnU w' B v' (l ++ ys) → Keep v.ownBlock.toList w w' → wpList Tryz.prog ops Q rest (a.put o.dst v') w') : wpList Tryz.prog ops Q (o :: rest) a w := by
  obtain ⟨i0, hi, hz0, hz1, hz2⟩ := info_parts infoU
  refine wpList_append_own _ hgd s x 25 ho B 5 i0 _ 1 1 Tryz.underlying25 hi hz0 hz1 hz2 rfl (by decide) v l.length (l.map cellU) hs hown ad ys.length cap (ys.map cellU) hx (by simp) hc ?_ (by unfold maxLen; omega) (by omega) hB ?_
  · intro u hu
    obtain ⟨b, _, rfl⟩ := List.mem_map.1 hu
    rfl
  · intro v' w' h1 h2 _
    refine h v' w' ?_ ((Keep.refl _ w).grown h2 fun k hk => .inl (by simpa using hk))
    unfold OwnU
    rw [List.map_append, List.length_append]
    exact h1
end

set_option maxRecDepth 100000 in
set_option maxHeartbeats 400000 in
/-- slices.Clone of bytes. -/
theorem cloneU_any (w : World) (v : Value) (l : List UInt8) (h : RdU w v l) (hl : l.length ≤ 100000000000) :
    Calls Tryz.prog 30 #[v] w fun e w' => ∃ v', e = .returned v' ∧ OwnU w' w.heap.size v' l ∧ Keep [] w w' := by
  obtain ⟨A, cap, rfl, hle, hcap, hc⟩ := h
  have q : ∀ (w : World) (a : Option Addr) (n c n' c' : Nat), (binOp .eql 25 (.slice a n c) (.slice none n' c')).run Tryz.prog w = .ok (.bool a.isNone) w := fun w a n c n' c' => Lib.run_eql_slice_nil w _ _ a n c n' c' Tryz.underlying25
  cases A with
  | none =>
    have hn : l = [] := by
      cases l with
      | nil => rfl
      | cons x l =>
        obtain ⟨b, o, h1, _⟩ := hc (by simp)
        cases h1
    subst hn
    go_enter Tryz.func30, Tryz.ntmps30
    go_wp2
    go_ret
    exact ⟨_, rfl, OwnU.nil _ _, Keep.refl _ _⟩
  | some ad =>
    have hcell : Hid (∀ j u, (l.map cellU)[j]? = some u → w.cell? (ad.add j) = some u) := by
      intro j u hu
      have hlt : j < l.length := by have := (List.getElem?_eq_some_iff.1 hu).1; simpa using this
      obtain ⟨b, o, h1, _, _, h2⟩ := hc (by omega)
      obtain rfl := Option.some.inj h1
      have hadd : (⟨b, o, none⟩ : Addr).add j = ⟨b, o + j, none⟩ := by unfold Addr.add; split <;> simp_all
      rw [hadd]
      exact h2 j u hu
    clear hc
    go_enter Tryz.func30, Tryz.ntmps30
    go_upto_region 3 with fail
    go_wp2_with (at_builtin; refine wpList_append_us (B := w.heap.size) (v := .slice (some ⟨w.heap.size, 0, none⟩) 0 0) (l := []) rfl _ _ rfl rfl (OwnU.made w) l ad cap rfl (fun j u hj => Lib.cell?_alloc_some _ (hcell.out j u hj)) (by simp; omega) (by simp) ?_; intro v' w' ho' hk')
    go_ret
    exact ⟨v', rfl, ho', ((Keep.refl [] w).alloc _).trans hk' (fun x hx => .inr (by simp [Value.ownBlock] at hx; omega))⟩

set_option maxRecDepth 100000 in
set_option maxHeartbeats 400000 in
/-- octet.Put16. -/
theorem put16_any (w : World) (v : Value) (l : List UInt8) (n : Nat) (hn : n < 65536) (h : RdU w v l) (hl : l.length ≤ 10000000000) :
    Calls Tryz.prog 70 #[v, .int .u16 n] w fun e w' => ∃ v', e = .returned v' ∧ OwnU w' w.heap.size v' (l ++ w16 n) ∧ Keep [] w w' := by
  have HC := Lib.hid (cloneU_any w v l h (by omega))
  clear h
  have HZ : Hid ((w16 n).map cellU = [.int .u8 ((n : Int) % 256), .int .u8 ((n : Int) / 256)]) := by
    unfold Hid w16 cellU
    simp only [List.map_cons, List.map_nil, UInt8.toNat_ofNat']
    have h1 : ((n % 2 ^ 8 : Nat) : Int) = (n : Int) % 256 := by omega
    have h2 : ((n / 256 % 2 ^ 8 : Nat) : Int) = (n : Int) / 256 := by omega
    rw [h1, h2]
  go_enter Tryz.func70, Tryz.ntmps70
  go_wp2_with (first | (go_at_call 30; refine HC.out.mono ?_; rintro e w1 ⟨v1, rfl, ho1, hk1⟩; have HO1 := Lib.hid ho1; have HK1 := Lib.hid hk1; clear ho1 hk1) | (at_builtin; refine wpList_append_us rfl _ _ rfl rfl (HO1.out.alloc _) (w16 n) ⟨w1.heap.size, 0, none⟩ 2 rfl (fun j u hj => new_cellsU w1 _ rfl [.int .u8 ((n : Int) % 256), .int .u8 ((n : Int) / 256)] 5 j u (by rw [← HZ.out]; exact hj)) (by rw [w16_len]; omega) (by have := HK1.out.size; simp; omega) ?_; intro v' w' ho' hk'))
  go_ret
  exact ⟨v', rfl, ho', (HK1.out.alloc _).trans hk' (fun x hx => .inr (HO1.out.lt x hx).1)⟩
set_option maxRecDepth 100000 in
set_option maxHeartbeats 400000 in
/-- octet.Put32. -/
theorem put32_any (w : World) (v : Value) (l : List UInt8) (n : Nat) (hn : n < 4294967296) (h : RdU w v l) (hl : l.length ≤ 10000000000) :
    Calls Tryz.prog 71 #[v, .int .u32 n] w fun e w' => ∃ v', e = .returned v' ∧ OwnU w' w.heap.size v' (l ++ w32 n) ∧ Keep [] w w' := by
  have HC := Lib.hid (cloneU_any w v l h (by omega))
  clear h
  have HZ : Hid ((w32 n).map cellU = [.int .u8 ((n : Int) % 256), .int .u8 ((n : Int) / 256 % 256), .int .u8 ((n : Int) / 65536 % 256), .int .u8 ((n : Int) / 16777216)]) := by
    unfold Hid w32 cellU
    simp only [List.map_cons, List.map_nil, UInt8.toNat_ofNat']
    have h1 : ((n % 2 ^ 8 : Nat) : Int) = (n : Int) % 256 := by omega
    have h2 : ((n / 256 % 2 ^ 8 : Nat) : Int) = (n : Int) / 256 % 256 := by omega
    have h3 : ((n / 65536 % 2 ^ 8 : Nat) : Int) = (n : Int) / 65536 % 256 := by omega
    have h4 : ((n / 16777216 % 2 ^ 8 : Nat) : Int) = (n : Int) / 16777216 := by omega
    rw [h1, h2, h3, h4]
  go_enter Tryz.func71, Tryz.ntmps71
  go_wp2_with (first | (go_at_call 30; refine HC.out.mono ?_; rintro e w1 ⟨v1, rfl, ho1, hk1⟩; have HO1 := Lib.hid ho1; have HK1 := Lib.hid hk1; clear ho1 hk1) | (at_builtin; refine wpList_append_us rfl _ _ rfl rfl (HO1.out.alloc _) (w32 n) ⟨w1.heap.size, 0, none⟩ 4 rfl (fun j u hj => new_cellsU w1 _ rfl [.int .u8 ((n : Int) % 256), .int .u8 ((n : Int) / 256 % 256), .int .u8 ((n : Int) / 65536 % 256), .int .u8 ((n : Int) / 16777216)] 5 j u (by rw [← HZ.out]; exact hj)) (by rw [w32_len]; omega) (by have := HK1.out.size; simp; omega) ?_; intro v' w' ho' hk'))
  go_ret
  exact ⟨v', rfl, ho', (HK1.out.alloc _).trans hk' (fun x hx => .inr (HO1.out.lt x hx).1)⟩
end Go.Proofs.YtmfoiceofhcicaaGreatDoor
