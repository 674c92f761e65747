/- Walks: put, of the reader of messages. -/
import Derived.Test.YtjldgcpmdcoejaaGreatDoorMV
import Derived.Deep.AppendLies
namespace Go.Proofs.YtjldgcpmdcoejaaGreatDoor
open Go.RowKit

theorem infoPart : (Tryz.prog.info? 47).map (fun i => (i.zero, i.size, i.bytes)) = some (some (.agg #[.int .i64 0, .string ⟨#[]⟩, .string ⟨#[]⟩, .string ⟨#[]⟩, .string ⟨#[]⟩, .int .i64 0, .slice none 0 0]), 7, 104) := by kernel_rfl
theorem partC_set (l : List PT) (vs : List Value) (a : PT) (cv : Value) (y : ByteArray) (h : vs.length = l.length) : (partC (l ++ [a]) (vs ++ [cv])).set (l.length * 7 + 1) (.string y) = partC (l ++ [{ a with tx := y }]) (vs ++ [cv]) := by
  rw [partC_append _ _ _ _ h, partC_append _ _ _ _ h, ← partC_length l vs h, List.set_append_right _ _ (by omega)]
  simp [partC, PT.cells]
theorem new_cells (w : World) (n : Nat) (hn : w.heap.size = n) (xs : List Value) (t : TypeId) : ∀ j u, xs[j]? = some u → (w.alloc (.cells xs.toArray t)).cell? ((⟨n, 0, none⟩ : Addr).add j) = some u := by
  intro j u hu
  have hadd : (⟨n, 0, none⟩ : Addr).add j = ⟨n, j, none⟩ := by unfold Addr.add; split <;> simp_all
  rw [hadd]
  exact (Blk.new' w t xs.toArray n hn).cell_eq (by simpa using hu)
/-- What put leaves behind. -/
def PutPost (f : Nat) (S : Nat → Prop) (w : World) (B lb g : Nat) (s : ByteArray) (p d : Nat) (v hv : Value) : RM (List PT) → Ending → World → Prop
  | .out, _, _ => True
  | .bad e q, x, w' => x = Stop e q ∧ w = w'
  | .ok l _ n, x, w' => x = .returned (.tuple #[]) ∧ ∃ v', Blk w' lb 22 #[v'] ∧ Rr w' g s p n d hv ∧ OwnM f S w' B v' l ∧ (∀ x ∈ v'.ownBlock.toList, x ∈ v.ownBlock.toList ∨ w.heap.size ≤ x) ∧ Keep ([lb, g] ++ v.ownBlock.toList) w w'

set_option maxRecDepth 100000 in
set_option maxHeartbeats 1000000 in
theorem put_same {f B : Nat} {S : Nat → Prop} (w : World) (lb rb g : Nat) (s : ByteArray) (p n d : Nat) (v hv : Value) (l : List PT) (a : PT) (t : ByteArray) (o : Nat) (hl : Blk w lb 22 #[v]) (hr : Rr w g s p n d hv)
    (ho : OwnM f S w B v (l ++ [a])) (ha : a.k = 1) (hlen : l.length ≤ 1000000) (hsz : a.tx.size + t.size ≤ 1000000000000) (hS : ∀ x, S x → x ∉ v.ownBlock.toList) :
    Calls Tryz.prog 66 #[.string t, .int .i64 o, .pointer (some ⟨lb, 0, none⟩), .pointer (some ⟨rb, 0, none⟩)] w (PutPost f S w B lb g s p d v hv (.ok (l ++ [{ a with tx := a.tx ++ t }]) p n)) := by
  obtain ⟨vs0, hvl, hown, hch⟩ := ho
  obtain ⟨vs, cv, rfl⟩ : ∃ vs cv, vs0 = vs ++ [cv] := by
    rcases List.eq_nil_or_concat vs0 with h | ⟨l0, a, h⟩
    · subst h; simp at hvl
    · exact ⟨l0, a, by rw [h, List.concat_eq_append]⟩
  have hvl' : vs.length = l.length := by simpa using hvl
  rcases hown.2 with ⟨_, h0⟩ | ⟨gb, cap, cur, rfl, hB, hg, hn, hcap, hcs, htk⟩
  · simp at h0
  rw [show (l ++ [a]).length = l.length + 1 from by simp] at hown hn
  have hcell : ∀ j, j < (l.length + 1) * 7 → w.cell? ⟨gb, j, none⟩ = (partC (l ++ [a]) (vs ++ [cv]))[j]? := fun j hj => hown.cellAt j (by omega)
  have hpa : ∀ j, j < 7 → (partC (l ++ [a]) (vs ++ [cv]))[l.length * 7 + j]? = (a.cells cv)[j]? := fun j hj => partC_at (l ++ [a]) (vs ++ [cv]) l.length a cv (by simp) (by simp [← hvl']) j hj
  have i0 : w.cell? ⟨gb, l.length * 7, none⟩ = some (.int .i64 1) := by
    have := hcell (l.length * 7) (by omega)
    rw [this]
    have h2 := hpa 0 (by omega)
    rw [Nat.add_zero] at h2
    rw [h2, ← ha]; rfl
  have i1 : w.cell? ⟨gb, l.length * 7 + 1, none⟩ = some (.string a.tx) := by
    rw [hcell _ (by omega), hpa 1 (by omega)]; rfl
  have z1 : w.frozen? ⟨gb, l.length * 7 + 1, none⟩ = false := hown.frozenAt _
  have l0 := hl.cell_eq (i := 0) (v := .slice (some ⟨gb, 0, none⟩) (l ++ [a]).length cap) rfl
  rw [show (l ++ [a]).length = l.length + 1 from by simp] at l0
  have hk : (0 : Int) ≤ (l.length : Int) + 1 - 1 := by omega
  have hlb : l.length < 9223372036854775807 := by omega
  have HOW := Lib.hid hown
  have HVL := Lib.hid hvl'
  have HL := Lib.hid hl
  have HRr := Lib.hid hr
  have HCH := Lib.hid hch
  have HS := Lib.hid hS
  have HSZ : Hid (a.tx.size + t.size ≤ 1000000000000) := hsz
  have hne : lb ≠ gb := Blk.ne_ (t' := 47) hl hg (by decide)
  have hneg : g ≠ gb := Blk.ne_ (t' := 47) hr hg (by decide)
  have HNE := Lib.hid (And.intro hne hneg)
  clear hcell hpa hcap hcs htk hown hvl' hl hr hch hS hvl hg hn ha hne hneg
  generalize hlm : l.length = m at *
  have HLM := Lib.hid hlm
  clear hlm
  go_enter Tryz.func66, Tryz.ntmps66
  go_wp2
  go_end0
  have hst := HOW.out.stored (m * 7 + 1) (.string (a.tx ++ t))
  have hset := partC_set l vs a cv (a.tx ++ t) (by rw [HLM.out]; exact HVL.out)
  rw [HLM.out] at hset
  rw [hset] at hst
  have hkeep : Keep [gb] w (w.setCell ⟨gb, m * 7 + 1, none⟩ (.string (a.tx ++ t))) := (Keep.refl _ _).setCell (.inl (by simp)) _
  refine ⟨rfl, .slice (some ⟨gb, 0, none⟩) (m + 1) cap, ?_, HRr.out.keep hkeep (by simpa using HNE.out.2), ⟨vs ++ [cv], by simp [HVL.out, HLM.out], ?_, ?_⟩, fun x hx => .inl (by simpa [Value.ownBlock] using hx), ?_⟩
  · have := HL.out.keep hkeep (by simpa using HNE.out.1)
    rw [show (l ++ [a]).length = m + 1 from by simp [HLM.out]] at this
    exact this
  · rw [show (l ++ [({ a with tx := a.tx ++ t } : PT)]).length = m + 1 from by simp [HLM.out]]
    exact hst.1
  · intro i q u hq hu
    have hq' : ∃ q0, (l ++ [a])[i]? = some q0 ∧ q0.cs = q.cs := by
      rcases Nat.lt_or_ge i l.length with h | h
      · rw [List.getElem?_append_left h] at hq
        exact ⟨q, by rw [List.getElem?_append_left h]; exact hq, rfl⟩
      · rw [List.getElem?_append_right h] at hq
        rw [List.getElem?_append_right h]
        cases hi : i - l.length with
        | zero => rw [hi] at hq; simp at hq; exact ⟨a, by simp, by rw [← hq]⟩
        | succ k => rw [hi] at hq; simp at hq
    obtain ⟨q0, hq0, hcs⟩ := hq'
    rw [← hcs]
    refine (HCH.out i q0 u hq0 hu).keep hkeep (fun x hx hc => ?_)
    simp at hx
    subst hx
    exact HS.out _ hc (by simp [Value.ownBlock])
  · exact hkeep.mono (fun x hx => .inl (by simp at hx; simp [hx, Value.ownBlock]))

theorem wpList_append_part {ops : Array Oper} {rest : List Oper} {o : Oper} {a : Act} {Q : Exit → Act → World → Prop} (hgd : o.guard = none) (s x : Operand)
    (ho : o.op = .call { callee := .builtin .append, args := #[s, x], argTypes := #[22, 22] })
    {w0 : World} {f B : Nat} {S : Nat → Prop} {v : Value} {l : List PT} (hs : a.eval s = v) (hown : OwnM f S w0 B v l) (n : Nat) (hn : w0.heap.size = n) (p : PT) (cv : Value) (hx : a.eval x = .slice (some ⟨n, 0, none⟩) 1 1)
    (hcv : cv.oneCell' = true) (hch : LiesC f S w0 cv p.cs) (hS : ∀ x, S x → x < n ∧ x ∉ v.ownBlock.toList)
    (hlen : l.length ≤ 1000000) (hB : B ≤ w0.heap.size)
    (h : ∀ g cap w', OwnM f S w' B (.slice (some ⟨g, 0, none⟩) (l.length + 1) cap) (l ++ [p]) → Keep v.ownBlock.toList w0 w' → (v.ownBlock = some g ∨ g = n + 1) → g < w'.heap.size → wpList Tryz.prog ops Q rest (a.put o.dst (.slice (some ⟨g, 0, none⟩) (l.length + 1) cap)) w') :
    wpList Tryz.prog ops Q (o :: rest) a (w0.alloc (.cells (p.cells cv).toArray 47)) := by
  obtain ⟨i0, hi, hz0, hz1, hz2⟩ := info_parts infoPart
  obtain ⟨vs, hvl, how, hcl⟩ := hown
  refine wpList_append_lies _ hgd s x 22 ho B 47 i0 _ 7 104 Tryz.underlying22 hi hz0 hz1 hz2 rfl (by decide) v l.length (partC l vs) hs (World.ownsRow.alloc how _) ⟨n, 0, none⟩ 1 1 (p.cells cv) hx rfl (new_cells w0 n hn _ _) ?_ (by decide) (by unfold maxLen; omega) (by omega) (by simp; omega) (n + 1) (by simp [hn]) ?_
  · intro u hu
    simp only [PT.cells, List.mem_cons, List.mem_nil_iff, or_false] at hu
    rcases hu with rfl | rfl | rfl | rfl | rfl | rfl | rfl <;> first | rfl | exact hcv
  · intro g cap w' h1 h2 h3 h4
    have hk : Keep v.ownBlock.toList w0 w' := ((Keep.refl _ w0).alloc _).grown h2 fun k hk => .inl (by simpa using hk)
    refine h g cap w' ⟨vs ++ [cv], by simp [hvl], ?_, ?_⟩ hk h3 h4
    · rw [partC_append _ _ _ _ hvl, List.length_append]
      simpa [partC] using h1
    · intro i q u hq hu
      have key : LiesC f S w0 u q.cs := by
        rcases Nat.lt_or_ge i l.length with hh | hh
        · rw [List.getElem?_append_left hh] at hq
          rw [List.getElem?_append_left (by omega)] at hu
          exact hcl i q u hq hu
        · rw [List.getElem?_append_right hh] at hq
          rw [List.getElem?_append_right (by omega), hvl] at hu
          cases hi : i - l.length with
          | zero => rw [hi] at hq hu; simp at hq hu; subst hq; subst hu; exact hch
          | succ k => rw [hi] at hq; simp at hq
      exact key.keep hk (fun x hx hc => (hS x hc).2 hx)

theorem ownM_form {f B : Nat} {S : Nat → Prop} {w : World} {v : Value} {l : List PT} (h : OwnM f S w B v l) : ∃ A cap, v = .slice A l.length cap ∧ (l ≠ [] → ∃ gb, A = some ⟨gb, 0, none⟩ ∧ B ≤ gb ∧ gb < w.heap.size) := by
  obtain ⟨vs, _, how, _⟩ := h
  rcases how.2 with ⟨rfl, h0⟩ | ⟨g, cap, cur, rfl, hB, hg, _⟩
  · exact ⟨none, 0, by rw [h0], fun hl => absurd (List.eq_nil_of_length_eq_zero h0) hl⟩
  · exact ⟨_, _, rfl, fun _ => ⟨g, rfl, hB, (Array.getElem?_eq_some_iff.1 hg).1⟩⟩
theorem ownM_ne {f B : Nat} {S : Nat → Prop} {w : World} {v : Value} {l : List PT} (h : OwnM f S w B v l) {g : Nat} {t : TypeId} {cs : Array Value} (hg : Blk w g t cs) (hne : 47 ≠ t) : g ∉ v.ownBlock.toList := fun hx => by
  obtain ⟨vs, _, how, _⟩ := h
  exact own_blk_ne how hg hne (by simpa using hx)
theorem textP_cells (t : ByteArray) : (textP t).cells (.slice none 0 0) = [.int .i64 1, .string t, .string ⟨#[]⟩, .string ⟨#[]⟩, .string ⟨#[]⟩, .int .i64 0, .slice none 0 0] := rfl
set_option maxRecDepth 100000 in
set_option maxHeartbeats 1000000 in
theorem put_new {f B : Nat} {S : Nat → Prop} (w : World) (lb rb g : Nat) (s : ByteArray) (p n d : Nat) (v hv : Value) (l : List PT) (t : ByteArray) (o : Nat) (hl : Blk w lb 22 #[v]) (hrb : Blk w rb 61 #[.pointer (some ⟨g, 0, none⟩)]) (hr : Rr w g s p n d hv)
    (ho : OwnM f S w B v l) (ha : ∀ a, l.getLast? = some a → a.k ≠ 1) (hlen : l.length ≤ 1000000) (hS : ∀ x, S x → x < w.heap.size ∧ x ≠ g ∧ x ∉ v.ownBlock.toList ∧ x ≠ lb) (hB : B ≤ w.heap.size) (hn : n < 1024) :
    Calls Tryz.prog 66 #[.string t, .int .i64 o, .pointer (some ⟨lb, 0, none⟩), .pointer (some ⟨rb, 0, none⟩)] w (PutPost f S w B lb g s p d v hv (.ok (l ++ [textP t]) p (n + 1))) := by
  obtain ⟨A, cap, rfl, hA⟩ := ownM_form ho
  have HL := Lib.hid hl
  have HRB := Lib.hid hrb
  have HR := Lib.hid hr
  have HO := Lib.hid ho
  have HS := Lib.hid hS
  have HLN := Lib.hid (ownM_ne ho hl (by decide))
  have HGN := Lib.hid (ownM_ne ho hr (by decide))
  have HRN := Lib.hid (ownM_ne ho hrb (by decide))
  have HLG : Hid (lb ≠ g) := Blk.ne_ hl hr (by decide)
  have HLR : Hid (lb ≠ rb) := Blk.ne_ hl hrb (by decide)
  have HGR : Hid (rb ≠ g) := Blk.ne_ hrb hr (by decide)
  have step : Hid (∀ w1, Rr w1 g s p (n + 1) d hv → Keep [g] w w1 → OwnM f S w1 B (.slice A l.length cap) l ∧ w1.heap.size ≥ w.heap.size ∧ Blk w1 lb 22 #[.slice A l.length cap]) := fun w1 h1 k1 =>
    ⟨HO.out.keep k1 (fun x hx hc => by simp at hx; exact (HS.out x hc).2.1 hx) (fun x hx hc => by simp at hc; subst hc; exact HGN.out hx), k1.size, HL.out.keep k1 (by simpa using HLG.out)⟩
  have r0 : w.cell? ⟨rb, 0, none⟩ = some (.pointer (some ⟨g, 0, none⟩)) := hrb.cell_eq rfl
  have lz := hl.frozen 0
  rcases snoc_or l with rfl | ⟨l1, a, rfl⟩
  · have l0 : w.cell? ⟨lb, 0, none⟩ = some (.slice A 0 cap) := hl.cell_eq rfl
    clear ho hl hrb hr hS hA ha
    go_enter Tryz.func66, Tryz.ntmps66
    go_wp2_with fail
    refine (count_yes w g s p n d hv o HR.out hn).mono ?_
    rintro x w1 ⟨rfl, h1, k1⟩
    obtain ⟨ho1, hsz1, hl1⟩ := step.out w1 h1 k1
    have l1c : w1.cell? ⟨lb, 0, none⟩ = some (.slice A 0 cap) := hl1.cell_eq rfl
    have l1z := hl1.frozen 0
    have HO1 := Lib.hid ho1
    have HL1 := Lib.hid hl1
    have HR1 := Lib.hid h1
    have HK1 := Lib.hid k1
    clear ho1 hl1 h1 k1 step
    go_wp2_with (at_builtin; refine wpList_append_part (v := .slice A 0 cap) (l := []) rfl _ _ rfl rfl HO1.out _ rfl (textP t) (.slice none 0 0) rfl rfl (LiesC.nil _ _ _) (fun x hx => ⟨Nat.lt_of_lt_of_le (HS.out x hx).1 hsz1, (HS.out x hx).2.2.1⟩) (by first | exact hlen | simpa using hlen) (by omega) ?_; intro g2 cap2 w2 q1 q2 q3 q4; have hl2 := HL1.out.keep q2 HLN.out; have l2c := hl2.cell_eq (i := 0) rfl; have l2z := hl2.frozen 0; have HL2 := Lib.hid hl2; have Q1 := Lib.hid q1; have Q2 := Lib.hid q2; have Q3 := Lib.hid q3; clear hl2 q1 q2 q3)
    go_end0
    have hlb2 : lb ∉ (Value.slice (some ⟨g2, 0, none⟩) (0 + 1) cap2).ownBlock.toList := ownM_ne Q1.out HL2.out (by decide)
    refine ⟨rfl, _, Blk.set_ HL2.out 0 _, (HR1.out.keep Q2.out HGN.out).keep (bs := [lb]) ((Keep.refl _ _).setCell (.inl (by simp)) _) (by have := HLG.out; simp; omega), Q1.out.keep (bs := [lb]) ((Keep.refl _ _).setCell (.inl (by simp)) _) (fun x hx hc => by simp at hx; exact (HS.out x hc).2.2.2 hx) (fun x hx hc => by simp at hc; subst hc; exact hlb2 hx), fun x hx => ?_, ?_⟩
    · simp [Value.ownBlock] at hx
      subst hx
      rcases Q3.out with h | h
      · exact .inl (by simp [h])
      · exact .inr (by omega)
    · exact ((HK1.out.mono (fun x hx => .inl (by simp at hx; simp [hx]))).same (Q2.out.mono (fun x hx => .inl (by simp at hx ⊢; exact .inr (.inr hx))))).setCell (.inl (by simp)) _
  · obtain ⟨gb, rfl, _, _⟩ := hA (by simp)
    obtain ⟨vs0, hvl, hown, _⟩ := ho
    obtain ⟨vs, cv, rfl⟩ : ∃ vs cv, vs0 = vs ++ [cv] := by
      rcases List.eq_nil_or_concat vs0 with h | ⟨l0, a, h⟩
      · subst h; simp at hvl
      · exact ⟨l0, a, by rw [h, List.concat_eq_append]⟩
    have hvl' : vs.length = l1.length := by simpa using hvl
    have i0 : w.cell? ⟨gb, l1.length * 7, none⟩ = some (.int .i64 a.k) := by
      have h1 := hown.cellAt (l1.length * 7) (by simp)
      have h2 := partC_at (l1 ++ [a]) (vs ++ [cv]) l1.length a cv (by simp) (by simp [← hvl']) 0 (by omega)
      rw [Nat.add_zero] at h2
      rw [h1, h2]; rfl
    have hk1 : (a.k == 1) = false := by simpa using ha a (by simp)
    have hlen2 : (l1 ++ [a]).length = l1.length + 1 := by simp
    have l0 : w.cell? ⟨lb, 0, none⟩ = some (.slice (some ⟨gb, 0, none⟩) (l1.length + 1) cap) := by rw [← hlen2]; exact hl.cell_eq rfl
    have hlb : l1.length < 9223372036854775807 := by rw [hlen2] at hlen; omega
    have hkk : (0 : Int) ≤ (l1.length : Int) + 1 - 1 := by omega
    rw [hlen2] at HL HO HS HLN HGN HRN step hlen ⊢
    obtain ⟨A, hA2⟩ : ∃ A, A = some (⟨gb, 0, none⟩ : Addr) := ⟨_, rfl⟩
    have HA2 := Lib.hid hA2
    have HN2 := Lib.hid hlen2
    clear hown hvl hvl' hl hrb hr hS hA ha hA2 hlen2
    go_enter Tryz.func66, Tryz.ntmps66
    go_wp2_with fail
    refine (count_yes w g s p n d hv o HR.out hn).mono ?_
    rintro x w1 ⟨rfl, h1, k1⟩
    obtain ⟨ho1, hsz1, hl1⟩ := step.out w1 h1 k1
    have l1c : w1.cell? ⟨lb, 0, none⟩ = some (.slice (some ⟨gb, 0, none⟩) (l1.length + 1) cap) := hl1.cell_eq rfl
    have l1z := hl1.frozen 0
    have HO1 := Lib.hid ho1
    have HL1 := Lib.hid hl1
    have HR1 := Lib.hid h1
    have HK1 := Lib.hid k1
    clear ho1 hl1 h1 k1 step
    go_wp2_with (at_builtin; refine wpList_append_part (v := .slice (some ⟨gb, 0, none⟩) (l1.length + 1) cap) (l := l1 ++ [a]) rfl _ _ rfl rfl HO1.out _ rfl (textP t) (.slice none 0 0) rfl rfl (LiesC.nil _ _ _) (fun x hx => ⟨Nat.lt_of_lt_of_le (HS.out x hx).1 hsz1, (HS.out x hx).2.2.1⟩) (by first | exact hlen | simpa using hlen) (by omega) ?_; intro g2 cap2 w2 q1 q2 q3 q4; have hl2 := HL1.out.keep q2 HLN.out; have l2c := hl2.cell_eq (i := 0) rfl; have l2z := hl2.frozen 0; have HL2 := Lib.hid hl2; have Q1 := Lib.hid q1; have Q2 := Lib.hid q2; have Q3 := Lib.hid q3; clear hl2 q1 q2 q3)
    go_end0
    have hQ1 : OwnM f S w2 B (.slice (some ⟨g2, 0, none⟩) (l1.length + 1 + 1) cap2) (l1 ++ [a] ++ [textP t]) := by
      have := Q1.out
      rw [HN2.out] at this
      exact this
    have hlb2 : lb ∉ (Value.slice (some ⟨g2, 0, none⟩) (l1.length + 1 + 1) cap2).ownBlock.toList := ownM_ne hQ1 HL2.out (by decide)
    refine ⟨rfl, _, Blk.set_ HL2.out 0 _, (HR1.out.keep Q2.out HGN.out).keep (bs := [lb]) ((Keep.refl _ _).setCell (.inl (by simp)) _) (by have := HLG.out; simp; omega), hQ1.keep (bs := [lb]) ((Keep.refl _ _).setCell (p := ⟨lb, 0, none⟩) (.inl (by simp)) _) (fun x hx hc => by simp at hx; exact (HS.out x hc).2.2.2 hx) (fun x hx hc => by simp at hc; subst hc; exact hlb2 hx), fun x hx => ?_, ?_⟩
    · simp [Value.ownBlock] at hx
      subst hx
      rcases Q3.out with h | h
      · exact .inl (by simp [h])
      · exact .inr (by omega)
    · exact ((HK1.out.mono (fun x hx => .inl (by simp at hx; simp [hx]))).same (Q2.out.mono (fun x hx => .inl (by simp at hx ⊢; exact .inr (.inr hx))))).setCell (.inl (by simp)) _

set_option maxRecDepth 100000 in
set_option maxHeartbeats 1000000 in
theorem put_full {f B : Nat} {S : Nat → Prop} (w : World) (lb rb g : Nat) (s : ByteArray) (p d : Nat) (v hv : Value) (l : List PT) (t : ByteArray) (o : Nat) (hl : Blk w lb 22 #[v]) (hrb : Blk w rb 61 #[.pointer (some ⟨g, 0, none⟩)]) (hr : Rr w g s p 1024 d hv)
    (ho : OwnM f S w B v l) (ha : ∀ a, l.getLast? = some a → a.k ≠ 1) (hlen : l.length ≤ 1000000) :
    Calls Tryz.prog 66 #[.string t, .int .i64 o, .pointer (some ⟨lb, 0, none⟩), .pointer (some ⟨rb, 0, none⟩)] w fun x w' => x = Stop 3 o ∧ w = w' := by
  obtain ⟨A, cap, rfl, hA⟩ := ownM_form ho
  have HR := Lib.hid hr
  have r0 : w.cell? ⟨rb, 0, none⟩ = some (.pointer (some ⟨g, 0, none⟩)) := hrb.cell_eq rfl
  rcases snoc_or l with rfl | ⟨l1, a, rfl⟩
  · have l0 : w.cell? ⟨lb, 0, none⟩ = some (.slice A 0 cap) := hl.cell_eq rfl
    clear ho hl hrb hr hA ha
    go_enter Tryz.func66, Tryz.ntmps66
    go_wp2_with (go_at_call 67; refine (count_no w g s p d hv o HR.out).mono ?_; rintro x w1 ⟨rfl, rfl⟩)
    exact ⟨rfl, rfl, rfl⟩
  · obtain ⟨gb, rfl, _, _⟩ := hA (by simp)
    obtain ⟨vs0, hvl, hown, _⟩ := ho
    obtain ⟨vs, cv, rfl⟩ : ∃ vs cv, vs0 = vs ++ [cv] := by
      rcases List.eq_nil_or_concat vs0 with h | ⟨l0, a, h⟩
      · subst h; simp at hvl
      · exact ⟨l0, a, by rw [h, List.concat_eq_append]⟩
    have hvl' : vs.length = l1.length := by simpa using hvl
    have i0 : w.cell? ⟨gb, l1.length * 7, none⟩ = some (.int .i64 a.k) := by
      have h1 := hown.cellAt (l1.length * 7) (by simp)
      have h2 := partC_at (l1 ++ [a]) (vs ++ [cv]) l1.length a cv (by simp) (by simp [← hvl']) 0 (by omega)
      rw [Nat.add_zero] at h2
      rw [h1, h2]; rfl
    have hk1 : (a.k == 1) = false := by simpa using ha a (by simp)
    have hlen2 : (l1 ++ [a]).length = l1.length + 1 := by simp
    have l0 : w.cell? ⟨lb, 0, none⟩ = some (.slice (some ⟨gb, 0, none⟩) (l1.length + 1) cap) := by rw [← hlen2]; exact hl.cell_eq rfl
    have hlb : l1.length < 9223372036854775807 := by rw [hlen2] at hlen; omega
    have hkk : (0 : Int) ≤ (l1.length : Int) + 1 - 1 := by omega
    clear hown hvl hvl' hl hrb hr hA ha hlen2
    go_enter Tryz.func66, Tryz.ntmps66
    go_wp2_with (go_at_call 67; refine (count_no w g s p d hv o HR.out).mono ?_; rintro x w1 ⟨rfl, rfl⟩)
    exact ⟨rfl, rfl, rfl⟩
/-- put. -/
theorem put_any {f B : Nat} {S : Nat → Prop} (w : World) (lb rb g : Nat) (s : ByteArray) (p n d : Nat) (v hv : Value) (l : List PT) (t : ByteArray) (o : Nat) (hl : Blk w lb 22 #[v]) (hrb : Blk w rb 61 #[.pointer (some ⟨g, 0, none⟩)]) (hr : Rr w g s p n d hv)
    (ho : OwnM f S w B v l) (hlen : l.length ≤ 1000000) (hS : ∀ x, S x → x < w.heap.size ∧ x ≠ g ∧ x ∉ v.ownBlock.toList ∧ x ≠ lb) (hB : B ≤ w.heap.size) (hn : n ≤ 1024) (hsz : ∀ a ∈ l, a.tx.size ≤ 100000000000) (ht : t.size ≤ 100000000000) :
    Calls Tryz.prog 66 #[.string t, .int .i64 o, .pointer (some ⟨lb, 0, none⟩), .pointer (some ⟨rb, 0, none⟩)] w (PutPost f S w B lb g s p d v hv (putS l t o n)) := by
  have rest : (∀ a, l.getLast? = some a → a.k ≠ 1) → putS l t o n = (if n = 1024 then .bad 3 o else .ok (l ++ [textP t]) o (n + 1)) := fun h => by
    unfold putS
    split
    · rename_i a ha; rw [if_neg (h a ha)]
    · rfl
  have done : (∀ a, l.getLast? = some a → a.k ≠ 1) → Calls Tryz.prog 66 #[.string t, .int .i64 o, .pointer (some ⟨lb, 0, none⟩), .pointer (some ⟨rb, 0, none⟩)] w (PutPost f S w B lb g s p d v hv (putS l t o n)) := fun h => by
    rw [rest h]
    by_cases h4 : n = 1024
    · subst h4
      rw [if_pos rfl]
      exact put_full w lb rb g s p d v hv l t o hl hrb hr ho h hlen
    · rw [if_neg h4]
      exact put_new w lb rb g s p n d v hv l t o hl hrb hr ho h hlen hS hB (by omega)
  rcases snoc_or l with rfl | ⟨l1, a, rfl⟩
  · exact done (fun a h => by simp at h)
  · by_cases hk : a.k = 1
    · have : putS (l1 ++ [a]) t o n = .ok (l1 ++ [{ a with tx := a.tx ++ t }]) o n := by
        unfold putS
        simp [hk]
      rw [this]
      exact put_same w lb rb g s p n d v hv l1 a t o hl hr ho hk (by simp at hlen; omega) (by have := hsz a (by simp); omega) (fun x hx => (hS x hx).2.2.1)
    · exact done (fun b hb => by simp at hb; rw [← hb]; exact hk)
end Go.Proofs.YtjldgcpmdcoejaaGreatDoor
