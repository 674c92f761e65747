/- A map from texts to numbers, in plain words: what is put, what is there. No walk. -/
import Derived.Test.YtmfoiceofhcicaaGreatDoorKA
import Derived.Maps.Own
import Derived.Maps.OwnOps
import Derived.Maps.OwnSet
import Derived.Maps.Views
namespace Go.Proofs.YtmfoiceofhcicaaGreatDoor
open Go.RowKit Go.Maps Go.WideMaps

abbrev MapD := DataW Unit
theorem law_s : Keyed Tryz.prog 9 := string_keyed Tryz.underlying9
theorem zero_i (w : World) : (zeroValue 3).run Tryz.prog w = .ok (.int .i64 0) w := by kernel_rfl
def keyB (s : ByteArray) : Lit := .string s.data.toList
theorem keyB_inj {s t : ByteArray} (h : keyB s = keyB t) : s = t := by
  have h1 : s.data.toList = t.data.toList := by unfold keyB at h; injection h
  obtain ⟨⟨a⟩⟩ := s
  obtain ⟨⟨b⟩⟩ := t
  simp only at h1
  rw [h1]
theorem key_of {s : ByteArray} (hs : s.size ≤ 1000000000) : keyOf Tryz.prog 9 (.string s) = some (keyB s) := keyOf_string_mk Tryz.underlying9 (by unfold maxLen; omega)
/-- Block b is a map of at most n entries that reads as D. -/
def OwnMap (w : World) (b n : Nat) (D : MapD) : Prop := w.ownsMap Tryz.prog 9 (plainElem Tryz.prog 3) b n D
def putD (D : MapD) (s : ByteArray) (v : Int) : MapD := D.put (keyB s) (.lit (.int .i64 v))
def valD' (D : MapD) (s : ByteArray) : DataW Unit := D.atKey (keyB s) (.lit (.int .i64 0))
def zeroD (D : MapD) (ts : List ByteArray) : MapD := ts.foldl (fun D s => putD D s 0) D
theorem zeroD_append (D : MapD) (a b : List ByteArray) : zeroD D (a ++ b) = zeroD (zeroD D a) b := by unfold zeroD; rw [List.foldl_append]
section
variable {w w' : World} {b n : Nat} {D : MapD} {bs : List Nat}
theorem OwnMap.keep (h : OwnMap w b n D) (hk : Keep bs w w') (hb : b ∉ bs) : OwnMap w' b n D := by
  have hl := World.ownsMap.lt h
  obtain ⟨es, clock, he, F, hs, hD⟩ := h
  exact ⟨es, clock, (hk.block b hl hb).trans he, F, hs, hD⟩
theorem OwnMap.le (h : OwnMap w b n D) {m : Nat} (hm : n ≤ m) : OwnMap w b m D := World.ownsMap.mono h hm
theorem OwnMap.lt (h : OwnMap w b n D) : b < w.heap.size := World.ownsMap.lt h
theorem OwnMap.isMap (h : OwnMap w b n D) : IsMap D := World.ownsMap.isMap h
theorem OwnMap.alloc (h : OwnMap w b n D) (o : Obj) : OwnMap (w.alloc o) b n D := World.ownsMap.alloc h o
theorem ownMap_ne {g : Nat} {t : TypeId} {cs : Array Value} (h : OwnMap w b n D) (hg : Blk w g t cs) : b ≠ g := by
  rintro rfl
  obtain ⟨es, clock, he, _⟩ := h
  unfold Blk at hg
  rw [he] at hg
  cases hg
/-- 'm[s] = v' at the operation. -/
theorem wpList_put {ops : Array Oper} {rest : List Oper} {o : Oper} {a : Act} {Q : Exit → Act → World → Prop} (hg : o.guard = none) (m x v : Operand) (hop : o.op = Op.mapUpdate 98 m x v)
    (hown : OwnMap w b n D) (hm : a.eval m = .map (some b)) (s : ByteArray) (hx : a.eval x = .string s) (z : Int) (hv : a.eval v = .int .i64 z) (hs : s.size ≤ 1000000000) (hn : n ≤ 1000000000) (hz0 : 0 ≤ z) (hz : z ≤ 1000000000)
    (hK : ∀ w', OwnMap w' b (n + 1) (putD D s z) → Keep [b] w w' → wpList Tryz.prog ops Q rest (a.put o.dst undef) w') : wpList Tryz.prog ops Q (o :: rest) a w :=
  wpList_mapUpdate_own w hg m x v 98 hop 9 3 law_s Tryz.underlying98 _ b n D hm hown (by unfold maxLen; omega) _ _ _ hx hv (key_of hs) _ [] (plainElem_int Tryz.underlying3 (WalkArith.wf_i64 (by omega)))
    fun w' h1 h2 => hK w' h1 ((Keep.refl [b] w).grown h2 fun k hk => .inl (by cases hk; simp))
/-- 'm[s]' at the operation. -/
theorem wpList_get {ops : Array Oper} {rest : List Oper} {o : Oper} {a : Act} {Q : Exit → Act → World → Prop} (hg : o.guard = none) (m x : Operand) (hop : o.op = Op.lookup 98 m x false)
    (hown : OwnMap w b n D) (hm : a.eval m = .map (some b)) (s : ByteArray) (hx : a.eval x = .string s) (hs : s.size ≤ 1000000000) (z : Int) (hz : valD' D s = .lit (.int .i64 z))
    (hK : wpList Tryz.prog ops Q rest (a.put o.dst (.int .i64 z)) w) : wpList Tryz.prog ops Q (o :: rest) a w :=
  wpList_lookup_own_int w hg m x 98 hop 9 3 .i64 law_s Tryz.underlying98 Tryz.underlying3 (zero_i _) b n D hm hown _ _ hx (key_of hs)
    fun c hc _ => by
      have : (DataW.lit (Lit.int .i64 z) : DataW Unit) = .lit (.int .i64 c) := hz.symm.trans hc
      injection this with this
      injection this with _ this
      subst this
      exact hK
end
theorem isMap_put {D : MapD} (h : IsMap D) (s : ByteArray) (v : Int) : IsMap (putD D s v) := IsMap.put h _ _
theorem val_same {D : MapD} (h : IsMap D) (s : ByteArray) (v : Int) : valD' (putD D s v) s = .lit (.int .i64 v) := atKey_put_same h (by trivial) _ _
theorem val_other {D : MapD} {s t : ByteArray} (hne : t ≠ s) (v : Int) : valD' (putD D s v) t = valD' D t := atKey_put_other (fun e => hne (keyB_inj e)) _ _
theorem has_put {D : MapD} (h : IsMap D) (s t : ByteArray) (v : Int) : has (putD D s v) (keyB t) = (decide (t = s) || has D (keyB t)) := by
  by_cases e : t = s
  · subst e
    rw [decide_eq_true rfl]
    exact has_put_same h (by trivial) _
  · rw [decide_eq_false e, Bool.false_or]
    exact has_put_other (fun h => e (keyB_inj h)) _
theorem has_zero {t : ByteArray} : ∀ (ts : List ByteArray) {D : MapD}, IsMap D → (has (zeroD D ts) (keyB t) = true ↔ t ∈ ts ∨ has D (keyB t) = true)
  | [], D, _ => by simp [zeroD]
  | s :: ts, D, h => by
    have ih := has_zero (t := t) ts (isMap_put h s 0)
    have e : zeroD D (s :: ts) = zeroD (putD D s 0) ts := rfl
    rw [e, ih, has_put h, Bool.or_eq_true, decide_eq_true_iff, List.mem_cons]
    constructor
    · rintro (h | h | h)
      · exact .inl (.inr h)
      · exact .inl (.inl h)
      · exact .inr h
    · rintro ((h | h) | h)
      · exact .inr (.inl h)
      · exact .inl h
      · exact .inr (.inr h)
/-- The numbers of texts, put one behind the other. -/
def numD : MapD → Nat → List ByteArray → MapD
  | D, _, [] => D
  | D, i, s :: P => numD (putD D s i) (i + 1) P
theorem numD_snoc (s : ByteArray) : ∀ (P : List ByteArray) (D : MapD) (i : Nat), numD D i (P ++ [s]) = putD (numD D i P) s (i + P.length)
  | [], D, i => by simp [numD]
  | t :: P, D, i => by
    rw [List.cons_append]
    simp only [numD, List.length_cons]
    rw [numD_snoc s P]
    congr 1
    push_cast
    omega
theorem val_num_out {t : ByteArray} : ∀ {P : List ByteArray} {D : MapD} {i : Nat}, t ∉ P → valD' (numD D i P) t = valD' D t
  | [], _, _, _ => rfl
  | s :: P, D, i, h => by
    rw [List.mem_cons, not_or] at h
    simp only [numD]
    rw [val_num_out h.2, val_other h.1]
/-- What a text's number is. -/
theorem val_num {t : ByteArray} : ∀ {P : List ByteArray} {D : MapD} {i : Nat}, IsMap D → P.Nodup → t ∈ P → valD' (numD D i P) t = .lit (.int .i64 ((i + idxT P t : Nat) : Int))
  | [], _, _, _, _, h => by simp at h
  | s :: P, D, i, hD, hn, h => by
    have hn1 := List.nodup_cons.1 hn
    simp only [numD]
    by_cases e : s = t
    · subst e
      rw [val_num_out hn1.1, val_same hD]
      unfold idxT
      rw [List.findIdx_cons]
      simp
    · have ht : t ∈ P := by
        rcases List.mem_cons.1 h with h | h
        · exact absurd h.symm e
        · exact h
      rw [val_num (isMap_put hD s i) hn1.2 ht]
      have : idxT (s :: P) t = idxT P t + 1 := by
        unfold idxT
        rw [List.findIdx_cons, decide_eq_false e]
        rfl
      rw [this, show i + 1 + idxT P t = i + (idxT P t + 1) by omega]
end Go.Proofs.YtmfoiceofhcicaaGreatDoor
