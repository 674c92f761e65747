/- Plain: messages as trees; how they lie in memory. No walk. -/
import Derived.Test.YtmfoiceofhcicaaGreatDoorBase
namespace Go.Proofs.YtmfoiceofhcicaaGreatDoor
open Go.RowKit

/-- A part of a message. -/
structure PT where
  k : Int
  tx : ByteArray
  nm : ByteArray
  ty : ByteArray
  st : ByteArray
  off : Int
  cs : List (ByteArray × List PT)
def PT.cells (p : PT) (cv : Value) : List Value := [.int .i64 p.k, .string p.tx, .string p.nm, .string p.ty, .string p.st, .int .i64 p.off, cv]
/-- The cells of parts, the values of their cases' slices being given. -/
def partC : List PT → List Value → List Value
  | p :: l, v :: vs => p.cells v ++ partC l vs
  | _, _ => []
/-- The cells of cases, the values of their parts' slices being given. -/
def caseC : List (ByteArray × List PT) → List Value → List Value
  | c :: l, v :: vs => [.string c.1, v] ++ caseC l vs
  | _, _ => []
theorem partC_length : ∀ (l : List PT) (vs : List Value), vs.length = l.length → (partC l vs).length = l.length * 7
  | [], [], _ => rfl
  | p :: l, v :: vs, h => by
    have := partC_length l vs (by simpa using h)
    simp only [partC, List.length_append, this, PT.cells, List.length_cons, List.length_nil]
    omega
theorem caseC_length : ∀ (l : List (ByteArray × List PT)) (vs : List Value), vs.length = l.length → (caseC l vs).length = l.length * 2
  | [], [], _ => rfl
  | c :: l, v :: vs, h => by
    have := caseC_length l vs (by simpa using h)
    simp only [caseC, List.length_append, this, List.length_cons, List.length_nil]
    omega
theorem partC_append : ∀ (l : List PT) (vs : List Value) (m : List PT) (us : List Value), vs.length = l.length → partC (l ++ m) (vs ++ us) = partC l vs ++ partC m us
  | [], [], _, _, _ => rfl
  | p :: l, v :: vs, m, us, h => by
    simp only [List.cons_append, partC, partC_append l vs m us (by simpa using h), List.append_assoc]
theorem caseC_append : ∀ (l : List (ByteArray × List PT)) (vs : List Value) (m : List (ByteArray × List PT)) (us : List Value), vs.length = l.length → caseC (l ++ m) (vs ++ us) = caseC l vs ++ caseC m us
  | [], [], _, _, _ => rfl
  | p :: l, v :: vs, m, us, h => by
    simp only [List.cons_append, caseC, caseC_append l vs m us (by simpa using h), List.append_assoc]
theorem partC_at : ∀ (l : List PT) (vs : List Value) (i : Nat) (p : PT) (v : Value), l[i]? = some p → vs[i]? = some v → ∀ j, j < 7 → (partC l vs)[i * 7 + j]? = (p.cells v)[j]?
  | [], _, _, _, _, h, _, _, _ => by simp at h
  | _ :: _, [], _, _, _, _, h, _, _ => by simp at h
  | q :: l, u :: vs, 0, p, v, h, h', j, hj => by
    simp only [List.getElem?_cons_zero, Option.some.injEq] at h h'
    subst h; subst h'
    simp only [partC, Nat.zero_mul, Nat.zero_add]
    rw [List.getElem?_append_left (by simpa [PT.cells] using hj)]
  | q :: l, u :: vs, i + 1, p, v, h, h', j, hj => by
    have := partC_at l vs i p v (by simpa using h) (by simpa using h') j hj
    simp only [partC]
    rw [List.getElem?_append_right (by simp [PT.cells]; omega), ← this]
    congr 1
    simp [PT.cells]; omega
theorem caseC_at : ∀ (l : List (ByteArray × List PT)) (vs : List Value) (i : Nat) (p : ByteArray × List PT) (v : Value), l[i]? = some p → vs[i]? = some v → (caseC l vs)[i * 2]? = some (.string p.1) ∧ (caseC l vs)[i * 2 + 1]? = some v
  | [], _, _, _, _, h, _ => by simp at h
  | _ :: _, [], _, _, _, _, h => by simp at h
  | q :: l, u :: vs, 0, p, v, h, h' => by
    simp only [List.getElem?_cons_zero, Option.some.injEq] at h h'
    subst h; subst h'
    exact ⟨rfl, rfl⟩
  | q :: l, u :: vs, i + 1, p, v, h, h' => by
    have := caseC_at l vs i p v (by simpa using h) (by simpa using h')
    simp only [caseC]
    rw [List.getElem?_append_right (by simp; omega), List.getElem?_append_right (by simp; omega)]
    rw [← this.1, ← this.2]
    refine ⟨?_, ?_⟩ <;> congr 1 <;> simp only [List.length_cons, List.length_nil] <;> omega

/-- The slice value v has n elements, xs in all, in a block of S. -/
def RdC (S : Nat → Prop) (w : World) (v : Value) (n : Nat) (xs : List Value) : Prop :=
  ∃ A cap, v = .slice A n cap ∧ n ≤ cap ∧ cap ≤ maxLen ∧
    (0 < n → ∃ b o, A = some ⟨b, o, none⟩ ∧ S b ∧ b < w.heap.size ∧ ∀ j u, xs[j]? = some u → w.cell? ⟨b, o + j, none⟩ = some u)
/-- The slice value v reads as the parts l; all that is read lies in blocks of S; n: how deep. -/
def Lies : Nat → (Nat → Prop) → World → Value → List PT → Prop
  | 0, _, _, _, _ => False
  | n + 1, S, w, v, l => ∃ vs, vs.length = l.length ∧ RdC S w v l.length (partC l vs) ∧
      ∀ (i : Nat) (p : PT) (cv : Value), l[i]? = some p → vs[i]? = some cv → ∃ us, us.length = p.cs.length ∧ RdC S w cv p.cs.length (caseC p.cs us) ∧
        ∀ (j : Nat) (c : ByteArray × List PT) (pv : Value), p.cs[j]? = some c → us[j]? = some pv → Lies n S w pv c.2
/-- The slice value v reads as the cases cs. -/
def LiesC (n : Nat) (S : Nat → Prop) (w : World) (v : Value) (cs : List (ByteArray × List PT)) : Prop :=
  ∃ us, us.length = cs.length ∧ RdC S w v cs.length (caseC cs us) ∧ ∀ (j : Nat) (c : ByteArray × List PT) (pv : Value), cs[j]? = some c → us[j]? = some pv → Lies n S w pv c.2
section
variable {S T : Nat → Prop} {w w' : World} {v : Value} {bs : List Nat}
theorem RdC.keep {n : Nat} {xs : List Value} (h : RdC S w v n xs) (hk : Keep bs w w') (hb : ∀ x ∈ bs, ¬ S x) : RdC S w' v n xs := by
  obtain ⟨A, cap, rfl, h1, h2, h3⟩ := h
  refine ⟨A, cap, rfl, h1, h2, fun hn => ?_⟩
  obtain ⟨b, o, rfl, hS, hlt, hc⟩ := h3 hn
  exact ⟨b, o, rfl, hS, Nat.lt_of_lt_of_le hlt hk.size, fun j u hu => (hk.cell (p := ⟨b, o + j, none⟩) hlt (fun hm => hb b hm hS)).trans (hc j u hu)⟩
theorem RdC.mono {n : Nat} {xs : List Value} (h : RdC S w v n xs) (hs : ∀ x, S x → T x) : RdC T w v n xs := by
  obtain ⟨A, cap, rfl, h1, h2, h3⟩ := h
  refine ⟨A, cap, rfl, h1, h2, fun hn => ?_⟩
  obtain ⟨b, o, rfl, hS, hlt, hc⟩ := h3 hn
  exact ⟨b, o, rfl, hs b hS, hlt, hc⟩
theorem Lies.keep : ∀ {n : Nat} {v : Value} {l : List PT}, Lies n S w v l → Keep bs w w' → (∀ x ∈ bs, ¬ S x) → Lies n S w' v l
  | 0, _, _, h, _, _ => h.elim
  | _ + 1, _, _, ⟨vs, hl, hr, hc⟩, hk, hb => ⟨vs, hl, hr.keep hk hb, fun i p cv hp hv =>
      let ⟨us, h1, h2, h3⟩ := hc i p cv hp hv
      ⟨us, h1, h2.keep hk hb, fun j c pv hj hu => Lies.keep (h3 j c pv hj hu) hk hb⟩⟩
theorem Lies.mono : ∀ {n : Nat} {v : Value} {l : List PT}, Lies n S w v l → (∀ x, S x → T x) → Lies n T w v l
  | 0, _, _, h, _ => h.elim
  | _ + 1, _, _, ⟨vs, hl, hr, hc⟩, hs => ⟨vs, hl, hr.mono hs, fun i p cv hp hv =>
      let ⟨us, h1, h2, h3⟩ := hc i p cv hp hv
      ⟨us, h1, h2.mono hs, fun j c pv hj hu => Lies.mono (h3 j c pv hj hu) hs⟩⟩
theorem LiesC.keep {n : Nat} {l : List (ByteArray × List PT)} (h : LiesC n S w v l) (hk : Keep bs w w') (hb : ∀ x ∈ bs, ¬ S x) : LiesC n S w' v l :=
  let ⟨us, h1, h2, h3⟩ := h
  ⟨us, h1, h2.keep hk hb, fun j c pv hj hu => (h3 j c pv hj hu).keep hk hb⟩
theorem LiesC.mono {n : Nat} {l : List (ByteArray × List PT)} (h : LiesC n S w v l) (hs : ∀ x, S x → T x) : LiesC n T w v l :=
  let ⟨us, h1, h2, h3⟩ := h
  ⟨us, h1, h2.mono hs, fun j c pv hj hu => (h3 j c pv hj hu).mono hs⟩
theorem RdC.nil (S : Nat → Prop) (w : World) : RdC S w (.slice none 0 0) 0 [] := ⟨none, 0, rfl, Nat.le_refl _, by simp [maxLen], fun h => absurd h (by omega)⟩
theorem Lies.nil (n : Nat) (S : Nat → Prop) (w : World) : Lies (n + 1) S w (.slice none 0 0) [] := ⟨[], rfl, RdC.nil S w, fun i p cv h => by simp at h⟩
theorem LiesC.nil (n : Nat) (S : Nat → Prop) (w : World) : LiesC n S w (.slice none 0 0) [] := ⟨[], rfl, RdC.nil S w, fun i p pv h => by simp at h⟩
/-- Deeper than need be. -/
theorem Lies.le : ∀ {n m : Nat} {v : Value} {l : List PT}, Lies n S w v l → n ≤ m → Lies m S w v l
  | 0, _, _, _, h, _ => h.elim
  | _ + 1, 0, _, _, _, h => absurd h (by omega)
  | _ + 1, _ + 1, _, _, ⟨vs, hl, hr, hc⟩, hm => ⟨vs, hl, hr, fun i p cv hp hv =>
      let ⟨us, h1, h2, h3⟩ := hc i p cv hp hv
      ⟨us, h1, h2, fun j c pv hj hu => Lies.le (h3 j c pv hj hu) (by omega)⟩⟩
theorem LiesC.le {n m : Nat} {l : List (ByteArray × List PT)} (h : LiesC n S w v l) (hm : n ≤ m) : LiesC m S w v l :=
  let ⟨us, h1, h2, h3⟩ := h
  ⟨us, h1, h2, fun j c pv hj hu => (h3 j c pv hj hu).le hm⟩
theorem RdC.of_own {B n size : Nat} {e : TypeId} {xs : List Value} (hn : xs.length = n * size) (h : w.ownsRow B e size v n xs) (hs : ∀ x ∈ v.ownBlock.toList, S x) : RdC S w v n xs := by
  rcases h.2 with ⟨rfl, h0⟩ | ⟨g, cap, cur, rfl, hB, hg, hnc, hcap, hsz, htk⟩
  · subst h0
    have : xs = [] := List.eq_nil_of_length_eq_zero (by omega)
    subst this
    exact RdC.nil S w
  · refine ⟨_, cap, rfl, hnc, hcap, fun _ => ⟨g, 0, rfl, hs g (by simp [Value.ownBlock]), (Array.getElem?_eq_some_iff.1 hg).1, fun j u hu => ?_⟩⟩
    have hj : j < n * size := by rw [← hn]; exact (List.getElem?_eq_some_iff.1 hu).1
    rw [Nat.zero_add]
    exact (World.ownsRow.cellAt h j hj).trans hu
end

/-- The value v is a slice of the call's own (its block lies from B on) that holds the parts l; what these lead to lies in blocks of S. -/
def OwnM (n : Nat) (S : Nat → Prop) (w : World) (B : Nat) (v : Value) (l : List PT) : Prop :=
  ∃ vs, vs.length = l.length ∧ w.ownsRow B 68 7 v l.length (partC l vs) ∧ ∀ (i : Nat) (p : PT) (cv : Value), l[i]? = some p → vs[i]? = some cv → LiesC n S w cv p.cs
/-- As OwnM: cases. -/
def OwnK (n : Nat) (S : Nat → Prop) (w : World) (B : Nat) (v : Value) (l : List (ByteArray × List PT)) : Prop :=
  ∃ us, us.length = l.length ∧ w.ownsRow B 70 2 v l.length (caseC l us) ∧ ∀ (j : Nat) (c : ByteArray × List PT) (pv : Value), l[j]? = some c → us[j]? = some pv → Lies n S w pv c.2
section
variable {n B : Nat} {S T : Nat → Prop} {w w' : World} {v : Value} {bs : List Nat}
theorem OwnM.nil (n B : Nat) (S : Nat → Prop) (w : World) : OwnM n S w B (.slice none 0 0) [] := ⟨[], rfl, World.ownsRow_nil w B _ 7, fun i p cv h => by simp at h⟩
theorem OwnK.nil (n B : Nat) (S : Nat → Prop) (w : World) : OwnK n S w B (.slice none 0 0) [] := ⟨[], rfl, World.ownsRow_nil w B _ 2, fun i p cv h => by simp at h⟩
theorem ownsRow_keep {e size m : Nat} {xs : List Value} (h : w.ownsRow B e size v m xs) (hk : Keep bs w w') (hb : ∀ x ∈ v.ownBlock.toList, x ∉ bs) : w'.ownsRow B e size v m xs := by
  refine ⟨h.1, ?_⟩
  rcases h.2 with hn | ⟨g, cap, cur, rfl, hB, hg, rest⟩
  · exact .inl hn
  · refine .inr ⟨g, cap, cur, rfl, hB, ?_, rest⟩
    rw [hk.block g (Array.getElem?_eq_some_iff.1 hg).1 (hb g (by simp [Value.ownBlock]))]
    exact hg
theorem OwnM.keep {l : List PT} (h : OwnM n S w B v l) (hk : Keep bs w w') (hb : ∀ x ∈ bs, ¬ S x) (hv : ∀ x ∈ v.ownBlock.toList, x ∉ bs) : OwnM n S w' B v l :=
  let ⟨vs, h1, h2, h3⟩ := h
  ⟨vs, h1, ownsRow_keep h2 hk hv, fun i p cv hp hc => (h3 i p cv hp hc).keep hk hb⟩
theorem OwnK.keep {l : List (ByteArray × List PT)} (h : OwnK n S w B v l) (hk : Keep bs w w') (hb : ∀ x ∈ bs, ¬ S x) (hv : ∀ x ∈ v.ownBlock.toList, x ∉ bs) : OwnK n S w' B v l :=
  let ⟨vs, h1, h2, h3⟩ := h
  ⟨vs, h1, ownsRow_keep h2 hk hv, fun i p cv hp hc => (h3 i p cv hp hc).keep hk hb⟩
theorem OwnM.mono {l : List PT} (h : OwnM n S w B v l) (hs : ∀ x, S x → T x) : OwnM n T w B v l :=
  let ⟨vs, h1, h2, h3⟩ := h
  ⟨vs, h1, h2, fun i p cv hp hc => (h3 i p cv hp hc).mono hs⟩
theorem OwnK.mono {l : List (ByteArray × List PT)} (h : OwnK n S w B v l) (hs : ∀ x, S x → T x) : OwnK n T w B v l :=
  let ⟨vs, h1, h2, h3⟩ := h
  ⟨vs, h1, h2, fun i p cv hp hc => (h3 i p cv hp hc).mono hs⟩
theorem OwnM.lies {l : List PT} (h : OwnM n S w B v l) (hs : ∀ x, S x → T x) (hv : ∀ x ∈ v.ownBlock.toList, T x) : Lies (n + 1) T w v l :=
  let ⟨vs, h1, h2, h3⟩ := h
  ⟨vs, h1, RdC.of_own (partC_length l vs h1) h2 hv, fun i p cv hp hc => (h3 i p cv hp hc).mono hs⟩
theorem OwnK.lies {l : List (ByteArray × List PT)} (h : OwnK n S w B v l) (hs : ∀ x, S x → T x) (hv : ∀ x ∈ v.ownBlock.toList, T x) : LiesC n T w v l :=
  let ⟨us, h1, h2, h3⟩ := h
  ⟨us, h1, RdC.of_own (caseC_length l us h1) h2 hv, fun j c pv hj hu => (h3 j c pv hj hu).mono hs⟩
theorem OwnM.lt {l : List PT} (h : OwnM n S w B v l) : ∀ x ∈ v.ownBlock.toList, B ≤ x ∧ x < w.heap.size :=
  let ⟨_, _, h2, _⟩ := h
  fun x hx => World.ownsRow.lt h2 x (by simpa using hx)
theorem OwnK.lt {l : List (ByteArray × List PT)} (h : OwnK n S w B v l) : ∀ x ∈ v.ownBlock.toList, B ≤ x ∧ x < w.heap.size :=
  let ⟨_, _, h2, _⟩ := h
  fun x hx => World.ownsRow.lt h2 x (by simpa using hx)
end
end Go.Proofs.YtmfoiceofhcicaaGreatDoor
