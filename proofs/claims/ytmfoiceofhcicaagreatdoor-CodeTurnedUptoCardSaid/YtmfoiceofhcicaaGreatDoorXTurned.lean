/- Plain: names of two lists, one behind the other; sameness of parts. No walk. Walks: message.Same, with slices.EqualFunc at parts and at cases, and its closures. Walks: message.Same: its closure on two parts; slices.EqualFunc at parts. Walks: read, Lift, Verify of code. Walks: code.Bound. Walks: wakes of the law of code. The law CodeThere, walked. Plain: parts that are the same are one; a message's code is short. No walk. Bytes: append at a step of a region that draws its order; places; a byte turned. No walk. CodeTurned, walked. The ground of layer 20's rows: the library's variables off the row's list; a world for the witness. Parts and bytes that came in, opened. CodeTurned holds, in its second form: a byte less, one more, or one turned, is no code of that message; for every parts of bounded bulk, place and byte. The library's variables as the program's text lays them, tied by the card. -/
import Derived.Test.YtmfoiceofhcicaaGreatDoorNA
import Derived.Test.YtmfoiceofhcicaaGreatDoorPB
import Derived.Test.YtmfoiceofhcicaaGreatDoorCA
import Derived.Test.YtmfoiceofhcicaaGreatDoorXKC
import Derived.Test.YtmfoiceofhcicaaGreatDoorKH
import Derived.Test.YtmfoiceofhcicaaGreatDoorCards
import Derived.Test.YtmfoiceofhcicaaGreatDoorTie
import Derived.Test.YtmfoiceofhcicaaGreatDoorEV
import Derived.ProofKit
import Derived.OpenShut
import Derived.Deep.Slices
import Derived.Deep.DeepHandedRow
import Derived.Lib.LaidU8
import Derived.PinnedBridge
import Derived.SizedLaws
import Derived.Lib.SmallJoins
import Derived.Lib.LaidIn
import Derived.Lib.TrailingZeros
import Derived.Test.YtmfoiceofhcicaaGreatDoorKF
import Derived.Deep.DeepWitnessRowRef
namespace Go.Proofs.YtmfoiceofhcicaaGreatDoor
open Go.RowKit

/-- Cases that are the same. -/
def sameC (K : List PT → List PT → Bool) : List CT → List CT → Bool
  | [], [] => true
  | c :: cs, d :: ds => decide (c.1 = d.1) && K c.2 d.2 && sameC K cs ds
  | _, _ => false
/-- Two parts that are the same. -/
def sameP (K : List PT → List PT → Bool) (p q : PT) : Bool :=
  decide (p.k = q.k) && decide (p.tx = q.tx) && decide (p.nm = q.nm) && decide (p.ty = q.ty) && decide (p.st = q.st) && decide (p.off = q.off) && sameC K p.cs q.cs
def sameL (K : List PT → List PT → Bool) : List PT → List PT → Bool
  | [], [] => true
  | p :: a, q :: b => sameP K p q && sameL K a b
  | _, _ => false
def sameF : Nat → List PT → List PT → Bool
  | 0, _, _ => true
  | n + 1, a, b => sameL (sameF n) a b
theorem sameC_refl {K : List PT → List PT → Bool} (h : ∀ l, K l l = true) : ∀ cs, sameC K cs cs = true
  | [] => rfl
  | c :: cs => by simp [sameC, h c.2, sameC_refl h cs]
theorem sameL_refl {K : List PT → List PT → Bool} (h : ∀ l, K l l = true) : ∀ l, sameL K l l = true
  | [] => rfl
  | p :: l => by simp [sameL, sameP, sameC_refl h p.cs, sameL_refl h l]
theorem same_refl : ∀ n l, sameF n l l = true
  | 0, _ => rfl
  | n + 1, l => sameL_refl (same_refl n) l
theorem sameC_len {K : List PT → List PT → Bool} : ∀ {a b : List CT}, a.length ≠ b.length → sameC K a b = false
  | [], [], h => absurd rfl h
  | [], _ :: _, _ => rfl
  | _ :: _, [], _ => rfl
  | c :: cs, d :: ds, h => by simp [sameC, sameC_len (K := K) (a := cs) (b := ds) (by simpa using h)]
theorem sameL_len {K : List PT → List PT → Bool} : ∀ {a b : List PT}, a.length ≠ b.length → sameL K a b = false
  | [], [], h => absurd rfl h
  | [], _ :: _, _ => rfl
  | _ :: _, [], _ => rfl
  | c :: cs, d :: ds, h => by simp [sameL, sameL_len (K := K) (a := cs) (b := ds) (by simpa using h)]
theorem sameC_drop {K : List PT → List PT → Bool} {a b : List CT} {i : Nat} {c d : CT} (h1 : a[i]? = some c) (h2 : b[i]? = some d) : sameC K (a.drop i) (b.drop i) = (decide (c.1 = d.1) && K c.2 d.2 && sameC K (a.drop (i + 1)) (b.drop (i + 1))) := by
  obtain ⟨g1, rfl⟩ := List.getElem?_eq_some_iff.1 h1
  obtain ⟨g2, rfl⟩ := List.getElem?_eq_some_iff.1 h2
  rw [List.drop_eq_getElem_cons g1, List.drop_eq_getElem_cons g2]
  rfl
theorem sameL_drop {K : List PT → List PT → Bool} {a b : List PT} {i : Nat} {c d : PT} (h1 : a[i]? = some c) (h2 : b[i]? = some d) : sameL K (a.drop i) (b.drop i) = (sameP K c d && sameL K (a.drop (i + 1)) (b.drop (i + 1))) := by
  obtain ⟨g1, rfl⟩ := List.getElem?_eq_some_iff.1 h1
  obtain ⟨g2, rfl⟩ := List.getElem?_eq_some_iff.1 h2
  rw [List.drop_eq_getElem_cons g1, List.drop_eq_getElem_cons g2]
  rfl

/-- All that r asks, s asks: the keys, and something where something is asked. -/
def Over (r s : List PR) : Prop := ∀ q ∈ r, ∃ p ∈ s, p.1 = q.1 ∧ (q.2 ≠ ⟨#[]⟩ → p.2 ≠ ⟨#[]⟩)
/-- All that r asks, s asks, word for word. -/
def Stays (r s : List PR) : Prop := ∀ q ∈ r, ∃ p ∈ s, p.1 = q.1 ∧ (q.2 ≠ ⟨#[]⟩ → p.2 = q.2)
theorem mem_putR {p q : PR} : ∀ {r : List PR}, Rise r → (q ∈ putR r p ↔ if ∃ x ∈ r, x.1 = p.1 then ∃ x ∈ r, q = updB p x else q = p ∨ q ∈ r) := by
  intro r hr
  by_cases h : ∃ x ∈ r, x.1 = p.1
  · rw [if_pos h, putR_mem hr (by obtain ⟨x, hx, e⟩ := h; rw [← e]; exact List.mem_map_of_mem hx), List.mem_map]
    constructor
    · rintro ⟨x, hx, rfl⟩; exact ⟨x, hx, rfl⟩
    · rintro ⟨x, hx, rfl⟩; exact ⟨x, hx, rfl⟩
  · rw [if_neg h, (putR_not fun hm => h (by obtain ⟨x, hx, e⟩ := List.mem_map.1 hm; exact ⟨x, hx, e⟩)).mem_iff, List.mem_cons]
theorem Stays.put {r s : List PR} (hs : Rise s) (h : Stays r s) (p : PR) : Stays r (putR s p) := fun q hq => by
  obtain ⟨x, hx, e1, e2⟩ := h q hq
  by_cases hp : ∃ y ∈ s, y.1 = p.1
  · refine ⟨updB p x, (mem_putR hs).2 (by rw [if_pos hp]; exact ⟨x, hx, rfl⟩), by rw [updB_key, e1], fun hne => ?_⟩
    have := e2 hne
    unfold updB
    split
    · simp only
      rw [if_neg (by rw [this]; exact hne), this]
    · exact this
  · exact ⟨x, (mem_putR hs).2 (by rw [if_neg hp]; exact .inr hx), e1, e2⟩
theorem Over.put {r s : List PR} (hr : Rise r) (hs : Rise s) (h : Over r s) (p : PR) : Over (putR r p) (putR s p) := fun q hq => by
  rw [mem_putR hr] at hq
  have new : ∃ x ∈ putR s p, x.1 = p.1 ∧ (p.2 ≠ ⟨#[]⟩ → x.2 ≠ ⟨#[]⟩) := by
    by_cases hp : ∃ y ∈ s, y.1 = p.1
    · obtain ⟨y, hy, e⟩ := hp
      refine ⟨updB p y, (mem_putR hs).2 (by rw [if_pos ⟨y, hy, e⟩]; exact ⟨y, hy, rfl⟩), by rw [updB_key, e], fun hne => ?_⟩
      unfold updB
      rw [if_pos e]
      simp only
      split
      · exact hne
      · assumption
    · exact ⟨p, (mem_putR hs).2 (by rw [if_neg hp]; exact .inl rfl), rfl, fun h => h⟩
  have old : ∀ x ∈ r, ∃ y ∈ putR s p, y.1 = x.1 ∧ (x.2 ≠ ⟨#[]⟩ → y.2 ≠ ⟨#[]⟩) := fun x hx => by
    obtain ⟨y, hy, e1, e2⟩ := h x hx
    by_cases hp : ∃ y ∈ s, y.1 = p.1
    · refine ⟨updB p y, (mem_putR hs).2 (by rw [if_pos hp]; exact ⟨y, hy, rfl⟩), by rw [updB_key, e1], fun hne => ?_⟩
      unfold updB
      split
      · simp only
        split
        · rename_i h2; exact absurd h2 (e2 hne)
        · exact e2 hne
      · exact e2 hne
    · exact ⟨y, (mem_putR hs).2 (by rw [if_neg hp]; exact .inr hy), e1, e2⟩
  split at hq
  · obtain ⟨x, hx, rfl⟩ := hq
    by_cases hk : x.1 = p.1
    · by_cases h2 : x.2 = ⟨#[]⟩
      · obtain ⟨y, hy, e1, e2⟩ := new
        refine ⟨y, hy, by rw [updB_key, hk, e1], fun hne => e2 ?_⟩
        unfold updB at hne
        rw [if_pos hk, if_pos h2] at hne
        exact hne
      · obtain ⟨y, hy, e1, e2⟩ := old x hx
        exact ⟨y, hy, by rw [updB_key, e1], fun _ => e2 h2⟩
    · rw [updB_ne hk]
      exact old x hx
  · rcases hq with rfl | hq
    · exact new
    · exact old q hq
/-- Keys that are asked are those of r or of s. -/
def Within (t r s : List PR) : Prop := ∀ q ∈ t, (∃ p ∈ r, p.1 = q.1) ∨ ∃ p ∈ s, p.1 = q.1
theorem Within.put {t r s : List PR} (hs : Rise s) (h : Within t r s) (p : PR) : Within (putR t p) r (putR s p) := fun q hq => by
  have new : ∃ x ∈ putR s p, x.1 = p.1 := by
    by_cases hp : ∃ y ∈ s, y.1 = p.1
    · obtain ⟨y, hy, e⟩ := hp
      exact ⟨updB p y, (mem_putR hs).2 (by rw [if_pos ⟨y, hy, e⟩]; exact ⟨y, hy, rfl⟩), by rw [updB_key, e]⟩
    · exact ⟨p, (mem_putR hs).2 (by rw [if_neg hp]; exact .inl rfl), rfl⟩
  have old : ∀ y ∈ s, ∃ x ∈ putR s p, x.1 = y.1 := fun y hy => by
    by_cases hp : ∃ y ∈ s, y.1 = p.1
    · exact ⟨updB p y, (mem_putR hs).2 (by rw [if_pos hp]; exact ⟨y, hy, rfl⟩), by rw [updB_key]⟩
    · exact ⟨y, (mem_putR hs).2 (by rw [if_neg hp]; exact .inr hy), rfl⟩
  rcases putR_keys hq with e | ⟨y, hy, e⟩
  · obtain ⟨x, hx, e2⟩ := new
    exact .inr ⟨x, hx, by rw [e2, e]⟩
  · rcases h y hy with ⟨x, hx, e2⟩ | ⟨x, hx, e2⟩
    · exact .inl ⟨x, hx, by rw [e2, e]⟩
    · obtain ⟨z, hz, e3⟩ := old x hx
      exact .inr ⟨z, hz, by rw [e3, e2, e]⟩
/-- What holds of the names so far: t of both, r of the first, s of the second. -/
def Parted (t r s : List PR) : Prop := Rise t ∧ Rise s ∧ Stays r t ∧ Over s t ∧ Within t r s
theorem Parted.put {t r s : List PR} (h : Parted t r s) (p : PR) : Parted (putR t p) r (putR s p) :=
  ⟨h.1.put, h.2.1.put, h.2.2.1.put h.1 p, h.2.2.2.1.put h.2.1 h.1 p, h.2.2.2.2.put h.2.1 p⟩
theorem Parted.cases {K : List PT → List PR → List PR} {r : List PR} (hK : ∀ l t s, Parted t r s → Parted (K l t) r (K l s)) : ∀ (cs : List CT) {t s : List PR}, Parted t r s → Parted (cs.foldl (stepC K) t) r (cs.foldl (stepC K) s)
  | [], _, _, h => h
  | c :: cs, _, _, h => Parted.cases hK cs (hK c.2 _ _ h)
theorem Parted.parts {K : List PT → List PR → List PR} {r : List PR} (hK : ∀ l t s, Parted t r s → Parted (K l t) r (K l s)) : ∀ (l : List PT) {t s : List PR}, Parted t r s → Parted (l.foldl (stepN putR K) t) r (l.foldl (stepN putR K) s)
  | [], _, _, h => h
  | p :: l, t, s, h => by
    refine Parted.parts hK l (Parted.cases hK _ ?_)
    split
    · exact h.put _
    · exact h
theorem Parted.nam {r : List PR} : ∀ (n : Nat) (l : List PT) (t s : List PR), Parted t r s → Parted (namF putR n l t) r (namF putR n l s)
  | 0, _, _, _, h => h
  | n + 1, l, _, _, h => Parted.parts (Parted.nam n) l h
theorem rise_nam (n : Nat) (l : List PT) : Rise (namF putR n l []) := (Together.nam n l [] [] together_nil).2
/-- The names of two lists, one behind the other. -/
theorem names_both (n : Nat) (a b : List PT) : Parted (namF putR (n + 1) (a ++ b) []) (namF putR (n + 1) a []) (namF putR (n + 1) b []) := by
  have e : namF putR (n + 1) (a ++ b) [] = namF putR (n + 1) b (namF putR (n + 1) a []) := by simp only [namF, List.foldl_append]
  rw [e]
  exact Parted.nam (n + 1) b _ [] ⟨rise_nam _ a, List.Pairwise.nil, fun q hq => ⟨q, hq, rfl, fun _ => rfl⟩, (fun q hq => absurd hq List.not_mem_nil), fun q hq => .inl ⟨q, hq, rfl⟩⟩
end Go.Proofs.YtmfoiceofhcicaaGreatDoor

namespace Go.Proofs.YtmfoiceofhcicaaGreatDoor
open Go.RowKit

/-- message.Same, of trees n deep. -/
def SmC (n : Nat) : Prop := ∀ (a b : List PT) (S T : Nat → Prop) (va vb : Value) (w : World), Lies n S w va a → Lies n T w vb b → bulkF n a ≤ 1000000000 → bulkF n b ≤ 1000000000 →
  Calls Tryz.prog 18 #[va, vb] w fun e w' => e = .returned (.bool (sameF n a b)) ∧ Keep [] w w'
set_option maxRecDepth 100000 in
set_option maxHeartbeats 1000000 in
/-- The closure on two cases. -/
theorem same2_any (n : Nat) (ih : SmC n) (c d : CT) (S T : Nat → Prop) (pv qv : Value) (w : World) (hc : Lies n S w pv c.2) (hd : Lies n T w qv d.2) (hb : bulkF n c.2 ≤ 1000000000) (hb2 : bulkF n d.2 ≤ 1000000000) :
    Calls Tryz.prog 40 #[.agg #[.string c.1, pv], .agg #[.string d.1, qv]] w fun e w' => e = .returned (.bool (decide (c.1 = d.1) && sameF n c.2 d.2)) ∧ Keep [] w w' := by
  obtain ⟨A1, m1, k1, rfl⟩ := hc.form
  obtain ⟨A2, m2, k2, rfl⟩ := hd.form
  have hbe := bytes_beq c.1 d.1
  have HIH : ∀ W, Keep [] w W → Hid (Calls Tryz.prog 18 #[.slice A1 m1 k1, .slice A2 m2 k2] W fun e w' => e = .returned (.bool (sameF n c.2 d.2)) ∧ Keep [] W w') := fun W hW => ih c.2 d.2 S T _ _ W (hc.keep hW (by simp)) (hd.keep hW (by simp)) hb hb2
  clear hc hd ih
  generalize sameF n c.2 d.2 = sr at *
  have hk2 : Keep [] w ((w.alloc (.cells #[.string c.1, .slice A1 m1 k1] 70)).alloc (.cells #[.string d.1, .slice A2 m2 k2] 70)) := ((Keep.refl _ _).alloc _).alloc _
  have HK2 := Lib.hid hk2
  clear hk2
  by_cases he : c.1 = d.1
  · rw [decide_eq_true he] at hbe ⊢
    clear he
    go_enter Tryz.func40, Tryz.ntmps40
    go_wp2_with (go_at_call 18; refine (HIH _ HK2.out).out.mono ?_; rintro e w5 ⟨rfl, hk5⟩; have HK5 := Lib.hid hk5; clear hk5)
    go_ret
    exact ⟨by simp, HK2.out.nil HK5.out⟩
  · rw [decide_eq_false he] at hbe ⊢
    clear he
    go_enter Tryz.func40, Tryz.ntmps40
    go_wp2
    go_ret
    exact ⟨by simp, HK2.out⟩
set_option maxRecDepth 100000 in
set_option maxHeartbeats 1000000 in
/-- slices.EqualFunc over cases. -/
theorem eqCase_any (n : Nat) (ih : SmC n) (cs ds : List CT) (S T : Nat → Prop) (cv dv : Value) (w : World) (hc : LiesC n S w cv cs) (hd : LiesC n T w dv ds) (hb : bulkC (bulkF n) cs ≤ 1000000000) (hb2 : bulkC (bulkF n) ds ≤ 1000000000) :
    Calls Tryz.prog 39 #[cv, dv, .func (.func 40) #[] #[]] w fun e w' => e = .returned (.bool (sameC (sameF n) cs ds)) ∧ Keep [] w w' := by
  have hK : ∀ args w, (callFunc 40 args).run Tryz.prog w = .ok (.enter 40 args) w := enters_of Tryz.func40 (by kernel_rfl) rfl
  obtain ⟨A1, k1, rfl, _, hat1⟩ := liesC_open hc
  obtain ⟨A2, k2, rfl, _, hat2⟩ := liesC_open hd
  have hl1 := bulkC_len (bulkF n) cs
  have hl2 := bulkC_len (bulkF n) ds
  have HAT1 := Lib.hid hat1
  have HAT2 := Lib.hid hat2
  have HIH : Hid (SmC n) := ih
  have HB1 := Lib.hid hb
  have HB2 := Lib.hid hb2
  have hll1 : cs.length ≤ 1000000000 := by omega
  have hll2 : ds.length ≤ 1000000000 := by omega
  clear hc hd hat1 hat2 ih hb hb2 hl1 hl2
  by_cases hl : cs.length = ds.length
  case neg =>
    have HR : Hid (sameC (sameF n) cs ds = false) := sameC_len hl
    have hne : ((cs.length : Int) != ds.length) = true := by simp; omega
    go_enter Tryz.func39, Tryz.ntmps39
    go_wp2
    go_ret
    exact ⟨by rw [HR.out]; rfl, Keep.refl _ _⟩
  obtain ⟨RR, hRR⟩ : ∃ RR, sameC (sameF n) cs ds = RR := ⟨_, rfl⟩
  rw [hRR]
  have HRR := Lib.hid hRR
  have HL := Lib.hid hl
  have hne : ((cs.length : Int) != ds.length) = false := by simp; omega
  clear hRR hl
  go_enter Tryz.func39, Tryz.ntmps39
  go_wp2
  go_loopw [17] (fun i wr => ∃ m : Nat, m ≤ cs.length ∧ i = .int .i64 m ∧ Keep [] w wr ∧ sameC (sameF n) (cs.drop m) (ds.drop m) = RR) (fun i _ => cs.length - (intOf i).toNat)
  case atStart => exact ⟨0, Nat.zero_le _, rfl, Keep.refl _ _, HRR.out⟩
  case round =>
    obtain ⟨m, hm, rfl, hK1, hF⟩ := hrel
    have HK1 := Lib.hid hK1
    have HF := Lib.hid hF
    clear hF
    by_cases hlt : m < cs.length
    · obtain ⟨c, hc⟩ : ∃ c, cs[m]? = some c := ⟨_, List.getElem?_eq_getElem hlt⟩
      obtain ⟨d, hd⟩ : ∃ d, ds[m]? = some d := ⟨_, List.getElem?_eq_getElem (by have := HL.out; omega)⟩
      have hlt2 : m < ds.length := by have := HL.out; omega
      obtain ⟨b1, o1, pv, rfl, hb1, e1, e2, hLc⟩ := HAT1.out m c hc
      obtain ⟨b2, o2, qv, rfl, hb2, g1, g2, hLd⟩ := HAT2.out m d hd
      replace e1 := (hK1.cell (p := ⟨b1, o1 + m * 2, none⟩) hb1 (by simp)).trans e1
      replace e2 := (hK1.cell (p := ⟨b1, o1 + m * 2 + 1, none⟩) hb1 (by simp)).trans e2
      replace g1 := (hK1.cell (p := ⟨b2, o2 + m * 2, none⟩) hb2 (by simp)).trans g1
      replace g2 := (hK1.cell (p := ⟨b2, o2 + m * 2 + 1, none⟩) hb2 (by simp)).trans g2
      have hbr1 := Nat.lt_of_lt_of_le hb1 hK1.size
      have hbr2 := Nat.lt_of_lt_of_le hb2 hK1.size
      obtain ⟨Ap, mp, kp, rfl⟩ := hLc.form
      obtain ⟨Aq, mq, kq, rfl⟩ := hLd.form
      have hbc := bulkC_at (bulkF n) cs m c hc
      have hbd := bulkC_at (bulkF n) ds m d hd
      have hbt := HB1.out
      have hbt2 := HB2.out
      have HC : ∀ W, Keep [] wr W → Hid (Calls Tryz.prog 40 #[.agg #[.string c.1, .slice Ap mp kp], .agg #[.string d.1, .slice Aq mq kq]] W fun e w' => e = .returned (.bool (decide (c.1 = d.1) && sameF n c.2 d.2)) ∧ Keep [] W w') := fun W hW => same2_any n HIH.out c d S T _ _ W ((hLc.keep hK1 (by simp)).keep hW (by simp)) ((hLd.keep hK1 (by simp)).keep hW (by simp)) (by omega) (by omega)
      have hF2 := HF.out
      rw [sameC_drop hc hd] at hF2
      have c2 : (wr.alloc (.cells #[.string c.1, .slice Ap mp kp] 70)).cell? ⟨b2, o2 + m * 2, none⟩ = some (.string d.1) := (((Keep.refl [] wr).alloc _).cell (p := ⟨b2, o2 + m * 2, none⟩) hbr2 (by simp)).trans g1
      have c3 : (wr.alloc (.cells #[.string c.1, .slice Ap mp kp] 70)).cell? ⟨b2, o2 + m * 2 + 1, none⟩ = some (.slice Aq mq kq) := (((Keep.refl [] wr).alloc _).cell (p := ⟨b2, o2 + m * 2 + 1, none⟩) hbr2 (by simp)).trans g2
      have hk3 : Keep [] wr ((wr.alloc (.cells #[.string c.1, .slice Ap mp kp] 70)).alloc (.cells #[.string d.1, .slice Aq mq kq] 70)) := ((Keep.refl _ _).alloc _).alloc _
      have HK3 := Lib.hid hk3
      clear hLc hLd hc hd hbc hbd hbt hbt2 hK1 hk3
      generalize sameF n c.2 d.2 = sr at *
      generalize (decide (c.1 = d.1)) = sk at *
      generalize hrest : sameC (sameF n) (cs.drop (m + 1)) (ds.drop (m + 1)) = rest at *
      have HREST := Lib.hid hrest
      have HF2 := Lib.hid hF2
      clear hrest hF2
      cases hs : (sk && sr)
      · rw [hs] at HC HF2
        clear hs
        go_wp2_with (go_at_fn 40; refine (HC _ HK3.out).out.mono ?_; rintro e w5 ⟨rfl, hk5⟩; have HK5 := Lib.hid hk5; clear hk5)
        go_ret
        exact ⟨by rw [← HF2.out]; rfl, (HK1.out.nil HK3.out).nil HK5.out⟩
      · rw [hs] at HC HF2
        clear hs
        go_wp2_with (go_at_fn 40; refine (HC _ HK3.out).out.mono ?_; rintro e w5 ⟨rfl, hk5⟩; have HK5 := Lib.hid hk5; clear hk5)
        go_roundw
        case rel => exact ⟨m + 1, by omega, by go_num, (HK1.out.nil HK3.out).nil HK5.out, by rw [HREST.out, ← HF2.out]; rfl⟩
        case measure => simp [intOf]; omega
    · obtain rfl : m = cs.length := by omega
      have hF := HF.out
      rw [List.drop_length, HL.out, List.drop_length] at hF
      have HF2 := Lib.hid hF
      clear hF
      go_wp2
      go_ret
      exact ⟨by rw [← HF2.out]; rfl, HK1.out⟩
end Go.Proofs.YtmfoiceofhcicaaGreatDoor

namespace Go.Proofs.YtmfoiceofhcicaaGreatDoor
open Go.RowKit

theorem sameP_l (K : List PT → List PT → Bool) (p q : PT) : sameP K p q = ((p.k == q.k) && (p.tx.toList == q.tx.toList) && (p.nm.toList == q.nm.toList) && (p.ty.toList == q.ty.toList) && (p.st.toList == q.st.toList) && (p.off == q.off) && sameC K p.cs q.cs) := by
  unfold sameP
  rw [bytes_beq, bytes_beq, bytes_beq, bytes_beq]
  have h1 : (p.k == q.k) = decide (p.k = q.k) := by rw [Bool.eq_iff_iff]; simp
  have h2 : (p.off == q.off) = decide (p.off = q.off) := by rw [Bool.eq_iff_iff]; simp
  rw [h1, h2]
set_option maxRecDepth 100000 in
set_option maxHeartbeats 4000000 in
/-- The closure on two parts. -/
theorem same1_any (n : Nat) (ih : SmC n) (p q : PT) (S T : Nat → Prop) (A1 A2 : Option Addr) (k1 k2 : Nat) (w : World) (hc : LiesC n S w (.slice A1 p.cs.length k1) p.cs) (hd : LiesC n T w (.slice A2 q.cs.length k2) q.cs) (hb : bulkC (bulkF n) p.cs ≤ 1000000000) (hb2 : bulkC (bulkF n) q.cs ≤ 1000000000) :
    Calls Tryz.prog 38 #[.agg #[.int .i64 p.k, .string p.tx, .string p.nm, .string p.ty, .string p.st, .int .i64 p.off, .slice A1 p.cs.length k1], .agg #[.int .i64 q.k, .string q.tx, .string q.nm, .string q.ty, .string q.st, .int .i64 q.off, .slice A2 q.cs.length k2]] w fun e w' => e = .returned (.bool (sameP (sameF n) p q)) ∧ Keep [] w w' := by
  rw [sameP_l]
  have HIH : ∀ W, Keep [] w W → Hid (Calls Tryz.prog 39 #[.slice A1 p.cs.length k1, .slice A2 q.cs.length k2, .func (.func 40) #[] #[]] W fun e w' => e = .returned (.bool (sameC (sameF n) p.cs q.cs)) ∧ Keep [] W w') := fun W hW => eqCase_any n ih p.cs q.cs S T _ _ W (hc.keep hW (by simp)) (hd.keep hW (by simp)) hb hb2
  clear hc hd ih hb hb2
  generalize sameC (sameF n) p.cs q.cs = sr at *
  generalize p.cs.length = l1 at *
  generalize q.cs.length = l2 at *
  have hk2 : Keep [] w ((w.alloc (.cells #[.int .i64 p.k, .string p.tx, .string p.nm, .string p.ty, .string p.st, .int .i64 p.off, .slice A1 l1 k1] 68)).alloc (.cells #[.int .i64 q.k, .string q.tx, .string q.nm, .string q.ty, .string q.st, .int .i64 q.off, .slice A2 l2 k2] 68)) := ((Keep.refl _ _).alloc _).alloc _
  have HK2 := Lib.hid hk2
  clear hk2
  cases h0 : (p.k == q.k)
  case false =>
    go_enter Tryz.func38, Tryz.ntmps38
    go_wp2
    go_ret
    exact ⟨by simp, HK2.out⟩
  cases h1 : (p.tx.toList == q.tx.toList)
  case false =>
    go_enter Tryz.func38, Tryz.ntmps38
    go_wp2
    go_ret
    exact ⟨by simp, HK2.out⟩
  cases h2 : (p.nm.toList == q.nm.toList)
  case false =>
    go_enter Tryz.func38, Tryz.ntmps38
    go_wp2
    go_ret
    exact ⟨by simp, HK2.out⟩
  cases h3 : (p.ty.toList == q.ty.toList)
  case false =>
    go_enter Tryz.func38, Tryz.ntmps38
    go_wp2
    go_ret
    exact ⟨by simp, HK2.out⟩
  cases h4 : (p.st.toList == q.st.toList)
  case false =>
    go_enter Tryz.func38, Tryz.ntmps38
    go_wp2
    go_ret
    exact ⟨by simp, HK2.out⟩
  cases h5 : (p.off == q.off)
  case false =>
    go_enter Tryz.func38, Tryz.ntmps38
    go_wp2
    go_ret
    exact ⟨by simp, HK2.out⟩
  go_enter Tryz.func38, Tryz.ntmps38
  go_wp2_with (go_at_call 39; refine (HIH _ HK2.out).out.mono ?_; rintro e w5 ⟨rfl, hk5⟩; have HK5 := Lib.hid hk5; clear hk5)
  go_ret
  exact ⟨by simp, HK2.out.nil HK5.out⟩
set_option maxRecDepth 100000 in
set_option maxHeartbeats 4000000 in
/-- slices.EqualFunc over parts. -/
theorem eqPart_any (n : Nat) (ih : SmC n) (a b : List PT) (S T : Nat → Prop) (va vb : Value) (w : World) (hc : Lies (n + 1) S w va a) (hd : Lies (n + 1) T w vb b) (hb : bulkF (n + 1) a ≤ 1000000000) (hb2 : bulkF (n + 1) b ≤ 1000000000) :
    Calls Tryz.prog 37 #[va, vb, .func (.func 38) #[] #[]] w fun e w' => e = .returned (.bool (sameF (n + 1) a b)) ∧ Keep [] w w' := by
  have hK : ∀ args w, (callFunc 38 args).run Tryz.prog w = .ok (.enter 38 args) w := enters_of Tryz.func38 (by kernel_rfl) rfl
  obtain ⟨A1, k1, rfl, _, hat1⟩ := lies_open hc
  obtain ⟨A2, k2, rfl, _, hat2⟩ := lies_open hd
  have hl1 := bulkL_len (bulkF n) a
  have hl2 := bulkL_len (bulkF n) b
  simp only [bulkF] at hb hb2
  have HAT1 := Lib.hid hat1
  have HAT2 := Lib.hid hat2
  have HIH : Hid (SmC n) := ih
  have HB1 := Lib.hid hb
  have HB2 := Lib.hid hb2
  have hll1 : a.length ≤ 1000000000 := by omega
  have hll2 : b.length ≤ 1000000000 := by omega
  clear hc hd hat1 hat2 ih hb hb2 hl1 hl2
  by_cases hl : a.length = b.length
  case neg =>
    have HR : Hid (sameF (n + 1) a b = false) := sameL_len hl
    have hne : ((a.length : Int) != b.length) = true := by simp; omega
    go_enter Tryz.func37, Tryz.ntmps37
    go_wp2
    go_ret
    exact ⟨by rw [HR.out]; rfl, Keep.refl _ _⟩
  obtain ⟨RR, hRR⟩ : ∃ RR, sameF (n + 1) a b = RR := ⟨_, rfl⟩
  rw [hRR]
  have HRR : Hid (sameL (sameF n) a b = RR) := hRR
  have HL := Lib.hid hl
  have hne : ((a.length : Int) != b.length) = false := by simp; omega
  clear hRR hl
  go_enter Tryz.func37, Tryz.ntmps37
  go_wp2
  go_loopw [17] (fun i wr => ∃ m : Nat, m ≤ a.length ∧ i = .int .i64 m ∧ Keep [] w wr ∧ sameL (sameF n) (a.drop m) (b.drop m) = RR) (fun i _ => a.length - (intOf i).toNat)
  case atStart => exact ⟨0, Nat.zero_le _, rfl, Keep.refl _ _, HRR.out⟩
  case round =>
    obtain ⟨m, hm, rfl, hK1, hF⟩ := hrel
    have HK1 := Lib.hid hK1
    have HF := Lib.hid hF
    clear hF
    by_cases hlt : m < a.length
    · obtain ⟨p, hp⟩ : ∃ p, a[m]? = some p := ⟨_, List.getElem?_eq_getElem hlt⟩
      obtain ⟨q, hq⟩ : ∃ q, b[m]? = some q := ⟨_, List.getElem?_eq_getElem (by have := HL.out; omega)⟩
      have hlt2 : m < b.length := by have := HL.out; omega
      obtain ⟨b1, o1, cv, rfl, hb1, hP, hLc⟩ := HAT1.out m p hp
      obtain ⟨b2, o2, dv, rfl, hb2, hQ, hLd⟩ := HAT2.out m q hq
      obtain ⟨A1, k1, rfl⟩ := hLc.formL
      obtain ⟨A2, k2, rfl⟩ := hLd.formL
      obtain ⟨a0, a1, a2, a3, a4, a5, a6⟩ := hP.keep hK1 hb1
      have hbr1 := Nat.lt_of_lt_of_le hb1 hK1.size
      have hbr2 := Nat.lt_of_lt_of_le hb2 hK1.size
      obtain ⟨g0, g1, g2, g3, g4, g5, g6⟩ := (hQ.keep hK1 hb2).keep ((Keep.refl [] wr).alloc (.cells #[.int .i64 p.k, .string p.tx, .string p.nm, .string p.ty, .string p.st, .int .i64 p.off, .slice A1 p.cs.length k1] 68)) hbr2
      have hbp := bulkL_at (bulkF n) a m p hp
      have hbq := bulkL_at (bulkF n) b m q hq
      have hbt := HB1.out
      have hbt2 := HB2.out
      have HC : ∀ W, Keep [] wr W → Hid (Calls Tryz.prog 38 #[.agg #[.int .i64 p.k, .string p.tx, .string p.nm, .string p.ty, .string p.st, .int .i64 p.off, .slice A1 p.cs.length k1], .agg #[.int .i64 q.k, .string q.tx, .string q.nm, .string q.ty, .string q.st, .int .i64 q.off, .slice A2 q.cs.length k2]] W fun e w' => e = .returned (.bool (sameP (sameF n) p q)) ∧ Keep [] W w') := fun W hW => same1_any n HIH.out p q S T A1 A2 k1 k2 W ((hLc.keep hK1 (by simp)).keep hW (by simp)) ((hLd.keep hK1 (by simp)).keep hW (by simp)) (by omega) (by omega)
      have hF2 := HF.out
      rw [sameL_drop hp hq] at hF2
      have hk3 : Keep [] wr ((wr.alloc (.cells #[.int .i64 p.k, .string p.tx, .string p.nm, .string p.ty, .string p.st, .int .i64 p.off, .slice A1 p.cs.length k1] 68)).alloc (.cells #[.int .i64 q.k, .string q.tx, .string q.nm, .string q.ty, .string q.st, .int .i64 q.off, .slice A2 q.cs.length k2] 68)) := ((Keep.refl _ _).alloc _).alloc _
      have HK3 := Lib.hid hk3
      clear hLc hLd hp hq hbp hbq hbt hbt2 hK1 hk3 hP hQ
      generalize sameP (sameF n) p q = sr at *
      generalize hrest : sameL (sameF n) (a.drop (m + 1)) (b.drop (m + 1)) = rest at *
      have HREST := Lib.hid hrest
      have HF2 := Lib.hid hF2
      clear hrest hF2
      cases sr
      · go_wp2_with (go_at_fn 38; refine (HC _ HK3.out).out.mono ?_; rintro e w5 ⟨rfl, hk5⟩; have HK5 := Lib.hid hk5; clear hk5)
        go_ret
        exact ⟨by rw [← HF2.out]; rfl, (HK1.out.nil HK3.out).nil HK5.out⟩
      · go_wp2_with (go_at_fn 38; refine (HC _ HK3.out).out.mono ?_; rintro e w5 ⟨rfl, hk5⟩; have HK5 := Lib.hid hk5; clear hk5)
        go_roundw
        case rel => exact ⟨m + 1, by omega, by go_num, (HK1.out.nil HK3.out).nil HK5.out, by rw [HREST.out, ← HF2.out]; rfl⟩
        case measure => simp [intOf]; omega
    · obtain rfl : m = a.length := by omega
      have hF := HF.out
      rw [List.drop_length, HL.out, List.drop_length] at hF
      have HF2 := Lib.hid hF
      clear hF
      go_wp2
      go_ret
      exact ⟨by rw [← HF2.out]; rfl, HK1.out⟩
set_option maxRecDepth 100000 in
set_option maxHeartbeats 1000000 in
theorem same_step (n : Nat) (ih : SmC n) : SmC (n + 1) := fun a b S T va vb w ha hb h1 h2 => by
  obtain ⟨A1, m1, k1, rfl⟩ := ha.form
  obtain ⟨A2, m2, k2, rfl⟩ := hb.form
  have HE := Lib.hid (eqPart_any n ih a b S T _ _ w ha hb h1 h2)
  clear ha hb ih h1 h2
  generalize sameF (n + 1) a b = sr at *
  go_enter Tryz.func18, Tryz.ntmps18
  go_wp2_with (go_at_call 37; refine HE.out.mono ?_; rintro e w5 ⟨rfl, hk5⟩; have HK5 := Lib.hid hk5; clear hk5)
  go_ret
  exact ⟨rfl, HK5.out⟩
/-- message.Same. -/
theorem same_any : ∀ n, SmC n
  | 0 => fun _ _ _ _ _ _ _ h => h.elim
  | n + 1 => same_step n (same_any n)
end Go.Proofs.YtmfoiceofhcicaaGreatDoor

namespace Go.Proofs.YtmfoiceofhcicaaGreatDoor
open Go.RowKit Go.IntWalk

set_option maxRecDepth 100000 in
set_option maxHeartbeats 2000000 in
/-- read. -/
theorem read_any (w : World) (B : Nat) (v0 : Value) (b : List UInt8) (hE : EnvM B w) (h : RdU w v0 b) (hl : b.length ≤ 1000000) (hsm : SmallB b) :
    Calls Tryz.prog 32 #[v0] w (ReadO b w) := by
  have hLL := list_any w v0 b h (by omega)
  have HV := Lib.hid h
  have HE := Lib.hid hE
  have HSM := Lib.hid hsm
  unfold ReadO
  clear h hE hsm
  cases hR : listR b with
  | none =>
    have hF : readF b = none := by unfold readF; rw [hR]
    unfold ListO at hLL
    rw [hR] at hLL
    rw [hF]
    have HLL := Lib.hid hLL
    clear hLL hF hR
    go_enter Tryz.func32, Tryz.ntmps32
    go_wp2_with (go_at_call 52; refine HLL.out.mono ?_; rintro e w1 ⟨hk1, p1, rfl⟩; have HK1 := Lib.hid hk1; clear hk1)
    go_ret3
    exact ⟨HK1.out, rfl⟩
  | some PO =>
    obtain ⟨P, ops⟩ := PO
    obtain ⟨-, hka⟩ := listR_ok hR
    unfold ListO at hLL
    rw [hR] at hLL
    have HLL := Lib.hid hLL
    have HLF : Hid (∀ w1 xb, Lst w1 w.heap.size xb P ops → ops.length ≤ b.length → Calls Tryz.prog 53 #[.pointer (some ⟨xb, 0, none⟩), .int .i64 0, .int .i64 9] w1 (LiftO ops (ops.length + 1) 9 0 w1)) := fun w1 xb hLst hol => lift_all 9 (by omega) ops P 0 (ops.length + 1) w1 _ xb hLst (Nat.zero_le _) (by omega) hka (by omega)
    clear hLL hka
    cases hM : liftF ops (ops.length + 1) 9 0 [] with
    | none =>
      have hF : readF b = none := by
        unfold readF liftM
        simp only [hR, hM, Option.map_none]
      rw [hF]
      unfold LiftO at HLF
      rw [hM] at HLF
      clear hF hR hM
      go_enter Tryz.func32, Tryz.ntmps32
      go_wp2_with (first
        | (go_at_call 52; refine HLL.out.mono ?_; rintro e w1 ⟨hk1, xb, rfl, hLst, hPl, hol⟩; have HLF1 := Lib.hid (HLF.out w1 xb hLst hol); have HK1 := Lib.hid hk1; clear hk1 hLst hPl hol)
        | (go_at_call 53; refine HLF1.out.mono ?_; rintro e w2 ⟨hk2, rfl⟩; have HK2 := Lib.hid hk2; clear hk2))
      go_ret3
      exact ⟨HK1.out.nil HK2.out, rfl⟩
    | some lj =>
      obtain ⟨l, j⟩ := lj
      have hlm : liftM ops = some l := by unfold liftM; rw [hM]; rfl
      have hbk := HSM.out P ops l hR hlm
      unfold LiftO at HLF
      rw [hM] at HLF
      have HCK : Hid (∀ (w1 w2 : World) (u : Value), Keep [] w w2 → w.heap.size ≤ w1.heap.size → OwnL 9 w2 w1.heap.size u l → Calls Tryz.prog 15 #[u] w2 fun e w' => e = .returned (.int .i64 (formF 10 l).2) ∧ Keep [] w2 w') := fun w1 w2 u hk hz hu => mcheck_all 10 l _ u B w2 (HE.out.keep hk (by simp)) hu.lies (fun x hx => hx.2) hbk
      by_cases hf : (formF 10 l).2 = 0
      · obtain ⟨hr, -, -, hb8⟩ := form_fine hf
        have HCO : Hid (∀ (w1 : Nat) (w2 w3 : World) (u : Value), Keep [] w2 w3 → OwnL 9 w2 w1 u l → Calls Tryz.prog 29 #[u] w3 fun e w' => ∃ u4, e = .returned u4 ∧ OwnU w' w3.heap.size u4 (codeF 10 l) ∧ Keep [] w3 w') := fun w1 w2 w3 u hk hu => compile_any 10 l _ u w3 (hu.lies.keep hk (by simp)) (fun x hx => Nat.lt_of_lt_of_le hx.2 hk.size) hr (by omega)
        rw [hf] at HCK
        obtain ⟨C, hC⟩ : ∃ C, codeF 10 l = C := ⟨_, rfl⟩
        rw [hC] at HCO
        by_cases hcb : C = b
        · have hF : readF b = some (P, ops, l) := by
            unfold readF
            simp only [hR, hlm]
            rw [if_pos ⟨hf, by rw [hC]; exact hcb⟩]
          rw [hF]
          have hd : decide (C = b) = true := decide_eq_true hcb
          clear hF hR hM hlm hbk hf hr hb8 hC hcb
          go_enter Tryz.func32, Tryz.ntmps32
          go_wp2_with (first
            | (go_at_call 52; refine HLL.out.mono ?_; rintro e w1 ⟨hk1, xb, rfl, hLst, hPl, hol⟩; have HLF1 := Lib.hid (HLF.out w1 xb hLst hol); have HK1 := Lib.hid hk1; have HLS := Lib.hid hLst; have HPL := Lib.hid hPl; have HOL := Lib.hid hol; clear hk1 hLst hPl hol)
            | (go_at_call 53; refine HLF1.out.mono ?_; rintro e w2 ⟨hk2, u, rfl, hu⟩; have HCK1 := Lib.hid (HCK.out w1 w2 u (HK1.out.nil hk2) HK1.out.size hu); obtain ⟨UA, uc, rfl⟩ := hu.form; have HU := Lib.hid hu; have HK2 := Lib.hid hk2; clear hk2 hu)
            | (go_at_call 15; refine HCK1.out.mono ?_; rintro e w3 ⟨rfl, hk3⟩; have HCO1 := Lib.hid (HCO.out w1.heap.size w2 w3 _ hk3 HU.out); have HK3 := Lib.hid hk3; clear hk3)
            | (go_at_call 29; refine HCO1.out.mono ?_; rintro e w4 ⟨u4, rfl, ho4, hk4⟩; have HEQ := Lib.hid (equalU_any w4 u4 v0 C b ho4.reads (RdU.keep HV.out (((HK1.out.nil HK2.out).nil HK3.out).nil hk4))); rw [hd] at HEQ; have HK4 := Lib.hid hk4; clear hk4 ho4)
            | (go_at_call 17; refine HEQ.out.mono ?_; rintro e w5 ⟨rfl, rfl⟩))
          go_ret3
          have hk23 := HK3.out.nil HK4.out
          have hz1 := HK1.out.size
          exact ⟨((HK1.out.nil HK2.out).nil HK3.out).nil HK4.out, xb, _, rfl, (HLS.out.nil HK2.out).nil hk23, (HU.out.lies.keep hk23 (by simp)).mono (fun x hx => ⟨Nat.le_trans hz1 hx.1, Nat.lt_of_lt_of_le hx.2 hk23.size⟩), HPL.out, HOL.out⟩
        · have hF : readF b = none := by
            unfold readF
            simp only [hR, hlm]
            rw [if_neg (fun h => hcb (by rw [← hC]; exact h.2))]
          rw [hF]
          have hd : decide (C = b) = false := decide_eq_false hcb
          clear hF hR hM hlm hbk hf hr hb8 hC hcb
          go_enter Tryz.func32, Tryz.ntmps32
          go_wp2_with (first
            | (go_at_call 52; refine HLL.out.mono ?_; rintro e w1 ⟨hk1, xb, rfl, hLst, hPl, hol⟩; have HLF1 := Lib.hid (HLF.out w1 xb hLst hol); have HK1 := Lib.hid hk1; clear hk1 hLst hPl hol)
            | (go_at_call 53; refine HLF1.out.mono ?_; rintro e w2 ⟨hk2, u, rfl, hu⟩; have HCK1 := Lib.hid (HCK.out w1 w2 u (HK1.out.nil hk2) HK1.out.size hu); obtain ⟨UA, uc, rfl⟩ := hu.form; have HU := Lib.hid hu; have HK2 := Lib.hid hk2; clear hk2 hu)
            | (go_at_call 15; refine HCK1.out.mono ?_; rintro e w3 ⟨rfl, hk3⟩; have HCO1 := Lib.hid (HCO.out w1.heap.size w2 w3 _ hk3 HU.out); have HK3 := Lib.hid hk3; clear hk3)
            | (go_at_call 29; refine HCO1.out.mono ?_; rintro e w4 ⟨u4, rfl, ho4, hk4⟩; have HEQ := Lib.hid (equalU_any w4 u4 v0 C b ho4.reads (RdU.keep HV.out (((HK1.out.nil HK2.out).nil HK3.out).nil hk4))); rw [hd] at HEQ; have HK4 := Lib.hid hk4; clear hk4 ho4)
            | (go_at_call 17; refine HEQ.out.mono ?_; rintro e w5 ⟨rfl, rfl⟩))
          go_ret3
          exact ⟨((HK1.out.nil HK2.out).nil HK3.out).nil HK4.out, rfl⟩
      · have hF : readF b = none := by
          unfold readF
          simp only [hR, hlm]
          rw [if_neg (fun h => hf h.1)]
        rw [hF]
        have hb1 : ((formF 10 l).2 != 0) = true := by simpa using hf
        generalize (formF 10 l).2 = er at *
        clear hF hR hM hlm hbk hf
        go_enter Tryz.func32, Tryz.ntmps32
        go_wp2_with (first
          | (go_at_call 52; refine HLL.out.mono ?_; rintro e w1 ⟨hk1, xb, rfl, hLst, hPl, hol⟩; have HLF1 := Lib.hid (HLF.out w1 xb hLst hol); have HK1 := Lib.hid hk1; clear hk1 hLst hPl hol)
          | (go_at_call 53; refine HLF1.out.mono ?_; rintro e w2 ⟨hk2, u, rfl, hu⟩; have HCK1 := Lib.hid (HCK.out w1 w2 u (HK1.out.nil hk2) HK1.out.size hu); obtain ⟨UA, uc, rfl⟩ := hu.form; have HU := Lib.hid hu; have HK2 := Lib.hid hk2; clear hk2 hu)
          | (go_at_call 15; refine HCK1.out.mono ?_; rintro e w3 ⟨rfl, hk3⟩; have HK3 := Lib.hid hk3; clear hk3))
        go_ret3
        exact ⟨(HK1.out.nil HK2.out).nil HK3.out, rfl⟩
/-- What Lift tells. -/
def LiftA (b : List UInt8) (w : World) (e : Ending) (w' : World) : Prop :=
  Keep [] w w' ∧ match readF b with
  | none => e = .returned (.tuple #[.slice none 0 0, .int .i64 300])
  | some (_, _, l) => ∃ u, e = .returned (.tuple #[u, .int .i64 0]) ∧ Lies 10 (fun x => w.heap.size ≤ x ∧ x < w'.heap.size) w' u l
set_option maxRecDepth 100000 in
set_option maxHeartbeats 2000000 in
/-- Lift. -/
theorem clift_any (w : World) (B : Nat) (v0 : Value) (b : List UInt8) (hE : EnvM B w) (h : RdU w v0 b) (hl : b.length ≤ 1000000) (hsm : SmallB b) :
    Calls Tryz.prog 19 #[v0] w (LiftA b w) := by
  have hRD := read_any w B v0 b hE h hl hsm
  unfold LiftA
  unfold ReadO at hRD
  clear hE h hsm
  cases hF : readF b with
  | none =>
    rw [hF] at hRD
    have HRD := Lib.hid hRD
    clear hRD hF
    go_enter Tryz.func19, Tryz.ntmps19
    go_wp2_with (go_at_call 32; refine HRD.out.mono ?_; rintro e w1 ⟨hk1, rfl⟩; have HK1 := Lib.hid hk1; clear hk1)
    go_ret2
    exact ⟨HK1.out, rfl⟩
  | some x =>
    obtain ⟨P, ops, l⟩ := x
    rw [hF] at hRD
    have HRD := Lib.hid hRD
    clear hRD hF
    go_enter Tryz.func19, Tryz.ntmps19
    go_wp2_with (go_at_call 32; refine HRD.out.mono ?_; rintro e w1 ⟨hk1, xb, u, rfl, -, hu, -, -⟩; have HK1 := Lib.hid hk1; have HU := Lib.hid hu; obtain ⟨UA, um, uc, rfl⟩ := hu.form; clear hk1 hu)
    go_ret2
    exact ⟨HK1.out, _, rfl, HU.out⟩
set_option maxRecDepth 100000 in
set_option maxHeartbeats 2000000 in
/-- Verify. -/
theorem cverify_any (w : World) (B : Nat) (v0 : Value) (b : List UInt8) (hE : EnvM B w) (h : RdU w v0 b) (hl : b.length ≤ 1000000) (hsm : SmallB b) :
    Calls Tryz.prog 20 #[v0] w fun e w' => e = .returned (.int .i64 (if (readF b).isSome then 0 else 300)) ∧ Keep [] w w' := by
  have hRD := clift_any w B v0 b hE h hl hsm
  unfold LiftA at hRD
  clear hE h hsm
  cases hF : readF b with
  | none =>
    rw [hF] at hRD
    have HRD := Lib.hid hRD
    clear hRD hF
    go_enter Tryz.func20, Tryz.ntmps20
    go_wp2_with (go_at_call 19; refine HRD.out.mono ?_; rintro e w1 ⟨hk1, rfl⟩; have HK1 := Lib.hid hk1; clear hk1)
    go_ret
    exact ⟨rfl, HK1.out⟩
  | some x =>
    obtain ⟨P, ops, l⟩ := x
    rw [hF] at hRD
    have HRD := Lib.hid hRD
    clear hRD hF
    go_enter Tryz.func20, Tryz.ntmps20
    go_wp2_with (go_at_call 19; refine HRD.out.mono ?_; rintro e w1 ⟨hk1, u, rfl, hu⟩; have HK1 := Lib.hid hk1; clear hk1 hu)
    go_ret
    exact ⟨rfl, HK1.out⟩
end Go.Proofs.YtmfoiceofhcicaaGreatDoor

namespace Go.Proofs.YtmfoiceofhcicaaGreatDoor
open Go.RowKit Go.IntWalk

/-- Each instruction that is no end and leads nowhere has one behind it. -/
def NextO (ops : List OT) : Prop := ∀ i o, ops[i]? = some o → o.k ≠ 0 → o.ts = [] → i + 1 < ops.length
set_option maxRecDepth 100000 in
set_option maxHeartbeats 8000000 in
/-- Bound. -/
theorem bound_any (w : World) (B : Nat) (v0 : Value) (b : List UInt8) (hE : EnvM B w) (h : RdU w v0 b) (hl : b.length ≤ 1000000) (hsm : SmallB b) (P : List ByteArray) (ops : List OT) (l : List PT) (hF : readF b = some (P, ops, l)) (hne : 0 < ops.length) (hnx : NextO ops) (htb : ∀ o ∈ ops, o.ts.length ≤ 65535 ∧ ∀ t ∈ o.ts, t < 4294967296) :
    Calls Tryz.prog 13 #[v0] w fun e w' => e = .returned (.tuple #[.int .i64 (boundF ops : Nat), .int .i64 0]) ∧ Keep [] w w' := by
  have hRD := read_any w B v0 b hE h hl hsm
  unfold ReadO at hRD
  rw [hF] at hRD
  have HRD := Lib.hid hRD
  have HNX := Lib.hid hnx
  have HTB := Lib.hid htb
  have hmk := @run_make_ints
  obtain ⟨TT, hTT⟩ : ∃ TT, farF ops ops.length (List.replicate ops.length 0) = TT := ⟨_, rfl⟩
  have HTT := Lib.hid hTT
  unfold boundF
  rw [hTT]
  clear hE h hsm hRD hF hnx htb hTT
  go_enter Tryz.func13, Tryz.ntmps13
  go_upto_region 4 with (go_at_call 32; refine HRD.out.mono ?_; rintro e w1 ⟨hk1, xb, u, rfl, hLst, hu, -, hol⟩; have HK1 := Lib.hid hk1; obtain ⟨UA, um, uc, rfl⟩ := hu.form; obtain ⟨pv, ov, mb, hX, hP, hO, hM⟩ := hLst; obtain ⟨OA, oc, rfl⟩ := hO.form; have x1 : w1.cell? ⟨xb, 1, none⟩ = some (.slice OA ops.length oc) := hX.cell_eq rfl; have HX := Lib.hid hX; have HO := Lib.hid hO; have HM := Lib.hid hM; have hol2 : ops.length ≤ 1000000 := (by omega); have hmk1 := hmk ops.length (by omega) w1; clear hk1 hX hP hO hM hu hol)
  have hN1 := made_ints w1 ops.length (by omega)
  have hkA : Keep [] w1 (w1.alloc (.cells (Array.replicate ops.length (Value.int .i64 0)) 3)) := (Keep.refl _ _).alloc _
  have hxA : (w1.alloc (.cells (Array.replicate ops.length (Value.int .i64 0)) 3)).cell? ⟨xb, 1, none⟩ = some (.slice OA ops.length oc) := (HX.out.keep hkA (by simp)).cell_eq rfl
  go_upto_region 5 with fail
  generalize w1.alloc (.cells (Array.replicate ops.length (Value.int .i64 0)) 3) = WA at *
  obtain ⟨fb, hfb⟩ : ∃ fb, w1.heap.size = fb := ⟨_, rfl⟩
  rw [hfb] at hN1 ⊢
  have HFB := Lib.hid hfb
  have HN1 := Lib.hid hN1
  have HKA := Lib.hid hkA
  obtain ⟨z0, hz0⟩ : ∃ z : Int, (ops.length : Int) - 1 = z := ⟨_, rfl⟩
  have hw1 : IntKind.i64.wrap ((ops.length : Int) - 1) = z0 := by rw [IntKind.wrap_i64]; omega
  have hw2 : wrap64 ((ops.length : Int) - 1) = z0 := by unfold wrap64; omega
  have hne' : (0 : Int) < (ops.length : Int) := by omega
  clear hN1 hkA hfb hmk hmk1 x1
  go_wp2
  clear hw1 hw2
  go_loopw [8] (fun iv wr => ∃ (j : Nat) (z : Int) (A : List Nat), iv = .int .i64 z ∧ z = (j : Int) - 1 ∧ j ≤ ops.length ∧ A.length = ops.length ∧ OwnN wr fb (.slice (some ⟨fb, 0, none⟩) ops.length ops.length) A ∧ (∀ x ∈ A, x ≤ ops.length - j) ∧ Keep [fb] WA wr ∧ farF ops j A = TT) (fun iv _ => (intOf iv + 1).toNat)
  case atStart => exact ⟨ops.length, z0, List.replicate ops.length 0, rfl, by omega, Nat.le_refl _, by simp, HN1.out, fun x hx => by rw [List.eq_of_mem_replicate hx]; omega, Keep.refl _ _, HTT.out⟩
  case round =>
    obtain ⟨j, z, A, rfl, hz, hj, hAl, hN, hAm, hK, hfar⟩ := hrel
    have hk1 : Keep [] w1 wr := (HKA.out.mono (by simp)).trans hK (fun x hx => .inr (by simp at hx; have := HFB.out; omega))
    have x1r : wr.cell? ⟨xb, 1, none⟩ = some (.slice OA ops.length oc) := (HX.out.keep hk1 (by simp)).cell_eq rfl
    have HN := Lib.hid hN
    have HAM := Lib.hid hAm
    have HK := Lib.hid hK
    have HKW := Lib.hid hk1
    have HFAR := Lib.hid hfar
    have HAL := Lib.hid hAl
    clear hN hAm hK hk1 hfar hxA
    by_cases hj0 : j = 0
    · subst hj0
      have hzn : ¬ (0 : Int) ≤ z := by omega
      have hg := (HN.out.get 0 (by have := HAL.out; omega)).1
      have hT : A = TT := HFAR.out
      have HT := Lib.hid hT
      clear hT hAl
      go_wp2
      go_ret2
      exact ⟨by rw [← HT.out]; rfl, HK1.out.nil HKW.out⟩
    · obtain ⟨i, rfl⟩ : ∃ i, j = i + 1 := ⟨j - 1, by omega⟩
      have hz1 : (0 : Int) ≤ z := by omega
      have hz2 : z < (ops.length : Int) := by omega
      have hz3 : z.toNat = i := by omega
      have hz4 : IntKind.i64.wrap (z - 1) = z - 1 := by rw [IntKind.wrap_i64]; omega
      have hz5 : wrap64 (z - 1) = z - 1 := by unfold wrap64; omega
      have HZ := Lib.hid hz
      obtain ⟨o, ho⟩ : ∃ o, ops[i]? = some o := ⟨_, List.getElem?_eq_getElem (by omega)⟩
      obtain ⟨ob, oc', u, he, hBb, hbs, hAt, hks, hts⟩ := HO.out.at ho
      injection he with he1 _ he3
      subst he1; subst he3
      have hAt2 := hAt.keep HKW.out hbs (by simp)
      have c0 : wr.cell? ⟨ob, i * 10, none⟩ = some (.int .i64 (o.at_ : Int)) := hAt2 0 _ rfl
      have c1 : wr.cell? ⟨ob, i * 10 + 1, none⟩ = some (.int .i64 (o.nx : Int)) := hAt2 1 _ rfl
      have c2 : wr.cell? ⟨ob, i * 10 + 2, none⟩ = some (.int .i64 (o.k : Int)) := hAt2 2 _ rfl
      have c3 : wr.cell? ⟨ob, i * 10 + 3, none⟩ = some (.string o.tx) := hAt2 3 _ rfl
      have c4 : wr.cell? ⟨ob, i * 10 + 4, none⟩ = some (.string o.nm) := hAt2 4 _ rfl
      have c5 : wr.cell? ⟨ob, i * 10 + 5, none⟩ = some (.string o.ty) := hAt2 5 _ rfl
      have c6 : wr.cell? ⟨ob, i * 10 + 6, none⟩ = some (.string o.st) := hAt2 6 _ rfl
      have c7 : wr.cell? ⟨ob, i * 10 + 7, none⟩ = some (.int .i64 (o.off : Int)) := hAt2 7 _ rfl
      have c8 : wr.cell? ⟨ob, i * 10 + 8, none⟩ = some u.1 := hAt2 8 _ rfl
      have c9 : wr.cell? ⟨ob, i * 10 + 9, none⟩ = some u.2 := hAt2 9 _ rfl
      obtain ⟨u1, u2⟩ := u
      obtain ⟨KA, kc, hku⟩ := hks.form
      obtain ⟨TA, tc, htu⟩ := hts.form
      simp only at hku htu c8 c9 hks hts
      subst hku; subst htu
      have HTS := Lib.hid hts
      obtain ⟨hok, htl⟩ := HTB.out o (List.mem_of_getElem? ho)
      have HO1 := Lib.hid ho
      have HTL := Lib.hid htl
      clear hAt hAt2 hks hts ho htl hz
      go_upto_region 9 with fail
      have hx1 : Blk (wr.alloc (.cells #[.int .i64 (o.at_ : Int), .int .i64 (o.nx : Int), .int .i64 (o.k : Int), .string o.tx, .string o.nm, .string o.ty, .string o.st, .int .i64 (o.off : Int), .slice KA o.ks.length kc, .slice TA o.ts.length tc] 36)) wr.heap.size 36 #[.int .i64 (o.at_ : Int), .int .i64 (o.nx : Int), .int .i64 (o.k : Int), .string o.tx, .string o.nm, .string o.ty, .string o.st, .int .i64 (o.off : Int), .slice KA o.ks.length kc, .slice TA o.ts.length tc] := Blk.new _ _ _
      have hkx : Keep [] wr (wr.alloc (.cells #[.int .i64 (o.at_ : Int), .int .i64 (o.nx : Int), .int .i64 (o.k : Int), .string o.tx, .string o.nm, .string o.ty, .string o.st, .int .i64 (o.off : Int), .slice KA o.ks.length kc, .slice TA o.ts.length tc] 36)) := (Keep.refl _ _).alloc _
      generalize wr.alloc (.cells #[.int .i64 (o.at_ : Int), .int .i64 (o.nx : Int), .int .i64 (o.k : Int), .string o.tx, .string o.nm, .string o.ty, .string o.st, .int .i64 (o.off : Int), .slice KA o.ks.length kc, .slice TA o.ts.length tc] 36) = W1 at *
      obtain ⟨tb, htb⟩ : ∃ tb, wr.heap.size = tb := ⟨_, rfl⟩
      rw [htb] at hx1 ⊢
      clear c0 c1 c2 c3 c4 c5 c6 c7 c8 c9 x1r
      have c2 : W1.cell? ⟨tb, 2, none⟩ = some (.int .i64 (o.k : Int)) := hx1.cell_eq rfl
      have c9 : W1.cell? ⟨tb, 9, none⟩ = some (.slice TA o.ts.length tc) := hx1.cell_eq rfl
      have hN1 := HN.out.keep hkx (by simp)
      have hil : i < A.length := by have := HAL.out; omega
      have hgi := hN1.get i hil
      have gi := hgi.1
      have gz := hgi.2
      have HN1' := Lib.hid hN1
      have HKX := Lib.hid hkx
      have hfr := HFAR.out
      unfold farF at hfr
      rw [HO1.out] at hfr
      simp only at hfr
      have hml : mostF ops A i o ≤ ops.length - (i + 1) := most_le HAM.out i o
      obtain ⟨mm, hmm⟩ : ∃ mm, mostF ops A i o = mm := ⟨_, rfl⟩
      rw [hmm] at hml hfr
      have HMM := Lib.hid hmm
      have HFR := Lib.hid hfr
      have hwm : IntKind.i64.wrap ((mm : Int) + 1) = (mm : Int) + 1 := IntWalk.i64_in _ (by omega)
      have HEND : Hid (OwnN (W1.setCell ⟨fb, i, none⟩ (.int .i64 ((mm + 1 : Nat) : Int))) fb (.slice (some ⟨fb, 0, none⟩) ops.length ops.length) (A.set i (mm + 1)) ∧ (∀ x ∈ A.set i (mm + 1), x ≤ ops.length - i) ∧ Keep [fb] WA (W1.setCell ⟨fb, i, none⟩ (.int .i64 ((mm + 1 : Nat) : Int)))) :=
        ⟨hN1.set i (mm + 1), set_le (fun y hy => by have := HAM.out y hy; omega) (by omega), (HK.out.nil hkx).setCell (.inl (by simp)) _⟩
      clear hx1 hkx hN1 hgi hfr hmm htb
      by_cases hk0 : o.k = 0
      · have e2 : ((o.k : Nat) : Int) = 0 := by omega
        rw [e2] at c2
        have hm0 : mm = 0 := by rw [← HMM.out]; unfold mostF; rw [if_pos hk0]
        subst hm0
        clear hk0 e2
        go_wp2
        go_roundw
        case rel => exact ⟨i, z - 1, A.set i 1, rfl, by have := HZ.out; omega, by omega, by have := HAL.out; simpa using this, HEND.out.1, HEND.out.2.1, HEND.out.2.2, HFR.out⟩
        case measure => have := HZ.out; simp [intOf]; omega
      · have d0 : ((o.k : Int) == 0) = false := by simp; omega
        have HK0 := Lib.hid hk0
        clear hk0
        by_cases hts0 : o.ts = []
        · have hl0 : o.ts.length = 0 := by rw [hts0]; rfl
          have hnx1 := HNX.out i o HO1.out HK0.out hts0
          have hmt : mm = A.getD (i + 1) 0 := by rw [← HMM.out]; unfold mostF; rw [if_neg HK0.out, if_pos hts0]
          have hg1 := (HN1'.out.get (i + 1) (by have := HAL.out; omega)).1
          rw [← hmt] at hg1
          have hz6 : IntKind.i64.wrap (z + 1) = z + 1 := by rw [IntKind.wrap_i64]; omega
          have hz7 : (z + 1).toNat = i + 1 := by omega
          have hz8 : (0 : Int) ≤ z + 1 := by omega
          have hz9 : z + 1 < (ops.length : Int) := by omega
          rw [hl0] at c9
          clear hts0 hmt hl0
          go_wp2
          go_roundw
          case rel => exact ⟨i, z - 1, A.set i (mm + 1), rfl, by have := HZ.out; omega, by omega, by have := HAL.out; simpa using this, by simpa using HEND.out.1, HEND.out.2.1, by simpa using HEND.out.2.2, HFR.out⟩
          case measure => have := HZ.out; simp [intOf]; omega
        · have hlb : ((o.ts.length : Int) == 0) = false := by
            have := List.length_pos_iff.2 hts0
            simp
            omega
          have hmf : o.ts.foldl (fun m t => max m (A.getD (lookN ops t) 0)) 0 = mm := by rw [← HMM.out]; unfold mostF; rw [if_neg HK0.out, if_neg hts0]
          have HMF := Lib.hid hmf
          have hkW : Keep [] w1 W1 := HKW.out.nil HKX.out
          have HKW1 := Lib.hid hkW
          have HM1 := Lib.hid (HM.out.keep hkW (by simp))
          have x2 : W1.cell? ⟨xb, 2, none⟩ = some (.map (some mb)) := (HX.out.keep hkW (by simp)).cell_eq rfl
          have HLQ : Hid (∀ t, lookN ops t < ops.length) := fun t => lookN_lt (by omega)
          clear hts0 hmf hkW
          go_wp2
          go_loopw [10, 47] (fun mv ix wr => ∃ (t m : Nat), t ≤ o.ts.length ∧ ix = .int .i64 t ∧ mv = .int .i64 m ∧ wr = W1 ∧ m ≤ ops.length ∧ (o.ts.drop t).foldl (fun m t => max m (A.getD (lookN ops t) 0)) m = mm) (fun _ ix _ => o.ts.length - (intOf ix).toNat)
          case atStart => exact ⟨0, 0, Nat.zero_le _, rfl, rfl, rfl, Nat.zero_le _, HMF.out⟩
          case round =>
            obtain ⟨t, m, ht, rfl, rfl, rfl, hmo, hfold⟩ := hrel
            by_cases htl : t < o.ts.length
            · have HTLT := Lib.hid htl
              obtain ⟨tt, htt⟩ : ∃ tt, o.ts[t]? = some tt := ⟨_, List.getElem?_eq_getElem htl⟩
              obtain ⟨tbk, tc', hte, hk0⟩ := HTS.out.at htt
              have htb := (HTS.out.lt tbk (by rw [hte]; simp [Value.ownBlock])).2
              injection hte with hte1 _ hte3
              subst hte1; subst hte3
              have k0 : wr.cell? ⟨tbk, t, none⟩ = some (.int .i64 (tt : Int)) := (HKW1.out.cell (p := ⟨tbk, t, none⟩) htb (by simp)).trans hk0
              have htt32 := HTL.out tt (List.mem_of_getElem? htt)
              have hq := HLQ.out tt
              have HVN := Lib.hid (valN_ops ops tt)
              have hfold2 := hfold
              rw [drop_some htt, List.foldl_cons] at hfold2
              generalize lookN ops tt = q at *
              have gq := (HN1'.out.get q (by have := HAL.out; omega)).1
              have hxq : A.getD q 0 ≤ ops.length := Nat.le_trans (getD_le HAM.out q) (Nat.sub_le _ _)
              generalize A.getD q 0 = xq at *
              have HF2 := Lib.hid hfold2
              have htt32' : tt ≤ 1000000000000 := by omega
              clear hk0 htt hfold hfold2
              go_wp2_with (at_lookup; refine wpList_getN rfl _ _ rfl HM1.out rfl tt rfl htt32' q HVN.out ?_)
              have htl2 : t < o.ts.length := HTLT.out
              have hcm : max (m : Int) (xq : Int) = ((max m xq : Nat) : Int) := by omega
              go_roundw
              case rel => exact ⟨t + 1, max m xq, htl2, by go_num, by rw [hcm], trivial, Nat.max_le.2 ⟨hmo, hxq⟩, HF2.out⟩
              case measure => simp [intOf]; omega
            · obtain rfl : t = o.ts.length := by omega
              rw [List.drop_length] at hfold
              have hfm : m = mm := hfold
              subst hfm
              clear hfold
              go_wp2
              go_roundw
              case rel => exact ⟨i, z - 1, A.set i (m + 1), rfl, by have := HZ.out; omega, by omega, by have := HAL.out; simpa using this, by simpa using HEND.out.1, HEND.out.2.1, by simpa using HEND.out.2.2, HFR.out⟩
              case measure => have := HZ.out; simp [intOf]; omega
end Go.Proofs.YtmfoiceofhcicaaGreatDoor

namespace Go.Proofs.YtmfoiceofhcicaaGreatDoor
open Go.RowKit Go.IntWalk

def lW : List PT := [⟨1, ⟨#[72, 105, 32]⟩, ⟨#[]⟩, ⟨#[]⟩, ⟨#[]⟩, 0, []⟩, ⟨3, ⟨#[]⟩, ⟨#[110]⟩, ⟨#[]⟩, ⟨#[]⟩, 0, []⟩]
def cW : List UInt8 := codeF 10 lW
def pW : List ByteArray := match readF cW with | some (P, _, _) => P | none => []
def oW : List OT := match readF cW with | some (_, o, _) => o | none => []
theorem w20_form : (formF 10 lW).2 = 0 := by kernel_rfl
theorem w20_len : cW.length = 25 := by kernel_rfl
theorem w20_read : readF cW = some (pW, oW, lW) := by kernel_rfl
theorem w20_bound : boundF oW = 3 := by kernel_rfl
theorem w20_bulk : bulkF 10 lW ≤ 900000000 := of_decide_eq_true (by kernel_rfl)
theorem w20_ops : oW.length = 3 := by kernel_rfl
theorem w20_last : (oW[2]?).map OT.k = some 0 := by kernel_rfl
theorem w20_ts : oW.map OT.ts = [[], [], []] := by kernel_rfl
theorem w20_next : NextO oW := fun i o ho hk _ => by
  have hl := (List.getElem?_eq_some_iff.1 ho).1
  have h3 := w20_ops
  by_cases h2 : i = 2
  · subst h2
    have := w20_last
    rw [ho] at this
    exact absurd (Option.some.inj this) hk
  · omega
theorem w20_tb : ∀ o ∈ oW, o.ts.length ≤ 65535 ∧ ∀ t ∈ o.ts, t < 4294967296 := fun o ho => by
  have h : o.ts ∈ oW.map OT.ts := List.mem_map_of_mem ho
  rw [w20_ts] at h
  have h0 : o.ts = [] := by simpa using h
  rw [h0]
  exact ⟨by simp, by simp⟩
set_option maxRecDepth 100000 in
set_option maxHeartbeats 2000000 in
/-- wakes is true. -/
theorem wakes20_any {B : Nat} (w : World) (hE : EnvM B w) :
    Calls Tryz.prog 9 #[] w fun e w' => e = .returned (.bool true) ∧ Keep [] w w' := by
  have HE := Lib.hid hE
  have hb : Blk (w.alloc (.cells #[.int .i64 1, .string ⟨#[72, 105, 32]⟩, .string ⟨#[]⟩, .string ⟨#[]⟩, .string ⟨#[]⟩, .int .i64 0, .slice none 0 0, .int .i64 3, .string ⟨#[]⟩, .string ⟨#[110]⟩, .string ⟨#[]⟩, .string ⟨#[]⟩, .int .i64 0, .slice none 0 0] 68)) w.heap.size 68 _ := Blk.new _ _ _
  have hkA : Keep [] w (w.alloc (.cells #[.int .i64 1, .string ⟨#[72, 105, 32]⟩, .string ⟨#[]⟩, .string ⟨#[]⟩, .string ⟨#[]⟩, .int .i64 0, .slice none 0 0, .int .i64 3, .string ⟨#[]⟩, .string ⟨#[110]⟩, .string ⟨#[]⟩, .string ⟨#[]⟩, .int .i64 0, .slice none 0 0] 68)) := (Keep.refl _ _).alloc _
  have hL : Lies 10 (fun x => x = w.heap.size) (w.alloc (.cells #[.int .i64 1, .string ⟨#[72, 105, 32]⟩, .string ⟨#[]⟩, .string ⟨#[]⟩, .string ⟨#[]⟩, .int .i64 0, .slice none 0 0, .int .i64 3, .string ⟨#[]⟩, .string ⟨#[110]⟩, .string ⟨#[]⟩, .string ⟨#[]⟩, .int .i64 0, .slice none 0 0] 68)) (.slice (some ⟨w.heap.size, 0, none⟩) 2 2) lW := by
    refine ⟨[.slice none 0 0, .slice none 0 0], rfl, ⟨_, 2, rfl, by simp [lW], by simp [maxLen], fun _ => ⟨w.heap.size, 0, rfl, rfl, hb.lt, fun j u hu => ?_⟩⟩, fun i p cv hp hv => ?_⟩
    · rw [Nat.zero_add, hb.cell, ← hu]
      simp [partC, lW, PT.cells]
    · have hi : i < 2 := (List.getElem?_eq_some_iff.1 hp).1
      have h01 : i = 0 ∨ i = 1 := by omega
      rcases h01 with rfl | rfl
      · simp only [lW, List.getElem?_cons_zero, Option.some.injEq] at hp hv
        rw [← hp, ← hv]
        exact LiesC.nil _ _ _
      · simp only [lW, List.getElem?_cons_succ, List.getElem?_cons_zero, Option.some.injEq] at hp hv
        rw [← hp, ← hv]
        exact LiesC.nil _ _ _
  have hC := ccompile_any 10 lW _ _ B _ (hE.keep hkA (by simp)) hL (fun x hx => by rw [hx]; exact hb.lt) w20_bulk
  unfold CompO at hC
  rw [w20_form] at hC
  have hcl : (codeF 10 lW).length = 25 := w20_len
  have HC : Hid (Calls Tryz.prog 11 #[.slice (some ⟨w.heap.size, 0, none⟩) 2 2] (w.alloc (.cells #[.int .i64 1, .string ⟨#[72, 105, 32]⟩, .string ⟨#[]⟩, .string ⟨#[]⟩, .string ⟨#[]⟩, .int .i64 0, .slice none 0 0, .int .i64 3, .string ⟨#[]⟩, .string ⟨#[110]⟩, .string ⟨#[]⟩, .string ⟨#[]⟩, .int .i64 0, .slice none 0 0] 68)) fun e w' => Keep [] w w' ∧ ∃ A c, e = .returned (.tuple #[.slice A 25 c, .int .i64 0]) ∧ RdU w' (.slice A 25 c) cW) := by
    refine hC.mono ?_
    rintro e w' ⟨h, hk⟩
    refine ⟨hkA.nil hk, ?_⟩
    rcases h with h | h | h
    · exact absurd rfl h.1
    · omega
    · obtain ⟨-, -, u, rfl, ho⟩ := h
      obtain ⟨A, c, rfl⟩ := ho.form
      rw [hcl] at ho ⊢
      exact ⟨A, c, rfl, ho.reads⟩
  have HB : Hid (∀ W v, Keep [] w W → RdU W v cW → Calls Tryz.prog 13 #[v] W fun e w' => e = .returned (.tuple #[.int .i64 3, .int .i64 0]) ∧ Keep [] W w') := fun W v hW hv => by
    have h := bound_any W B v cW (HE.out.keep hW (by simp)) hv (by rw [w20_len]; omega) (small_b (by rw [w20_len]; omega)) pW oW lW w20_read (by rw [w20_ops]; omega) w20_next w20_tb
    rw [w20_bound] at h
    exact h
  clear hE hb hkA hL hC hcl
  go_enter Tryz.func9, Tryz.ntmps9
  go_wp2_with (first
    | (go_at_call 11; refine HC.out.mono ?_; rintro e w1 ⟨hk1, A1, c1, rfl, hr1⟩; have HB1 := Lib.hid (HB.out w1 _ hk1 hr1); have HK1 := Lib.hid hk1; clear hk1 hr1)
    | (go_at_call 13; refine HB1.out.mono ?_; rintro e w2 ⟨rfl, hk2⟩; have HK2 := Lib.hid hk2; clear hk2))
  go_ret
  exact ⟨rfl, HK1.out.nil HK2.out⟩
end Go.Proofs.YtmfoiceofhcicaaGreatDoor

namespace Go.Proofs.YtmfoiceofhcicaaGreatDoor
open Go.RowKit Go.IntWalk

theorem sameF_self : ∀ (n : Nat) (l : List PT), sameF n l l = true
  | 0, _ => rfl
  | n + 1, l => sameL_refl (sameF_self n) l
set_option maxRecDepth 100000 in
set_option maxHeartbeats 4000000 in
/-- CodeThere. -/
theorem law_there (n : Nat) (l : List PT) (b : List UInt8) (S : Nat → Prop) (v vb : Value) (B : Nat) (w : World) (hE : EnvM B w) (hL : Lies n S w v l) (hS : ∀ x, S x → x < w.heap.size) (hb : bulkF n l ≤ 900000000) (hB : RdU w vb b) :
    Calls Tryz.prog 6 #[v, vb] w fun e w' => e = .returned (.bool true) ∧ Keep [] w w' := by
  obtain ⟨A, m, cap, rfl⟩ := hL.form
  have HE := Lib.hid hE
  have HL := Lib.hid hL
  have HB := Lib.hid hB
  have HWK := Lib.hid (wakes20_any w hE)
  have HDP : Hid (∀ W, Keep [] w W → Calls Tryz.prog 10 #[.slice A m cap, .int .i64 20] W fun e w' => e = .returned (.bool (deepF 20 l)) ∧ Keep [] W w') := fun W hW => deep_any 20 (by omega) n l S _ W (hL.keep hW (by simp))
  have HCO : Hid (∀ W, Keep [] w W → Calls Tryz.prog 11 #[.slice A m cap] W (CompO n l W)) := fun W hW => ccompile_any n l S _ B W (hE.keep hW (by simp)) (hL.keep hW (by simp)) (fun x hx => Nat.lt_of_lt_of_le (hS x hx) hW.size) hb
  have HCT : Hid (∀ W, Keep [] w W → Calls Tryz.prog 21 #[vb] W fun e w' => ∃ v', e = .returned v' ∧ RdU w' v' (b.take 4000) ∧ W = w') := fun W hW => cut_any W vb b (hB.keep hW)
  have hblen : (b.take 4000).length ≤ 4000 := by rw [List.length_take]; omega
  obtain ⟨b', hb'⟩ : ∃ b', b.take 4000 = b' := ⟨_, rfl⟩
  rw [hb'] at HCT hblen
  have HLB : Hid (∀ W u, Keep [] w W → RdU W u b' → Calls Tryz.prog 19 #[u] W (LiftA b' W)) := fun W u hW hu => clift_any W B u b' (hE.keep hW (by simp)) hu (by omega) (small_b (by omega))
  have HSL := Lib.hid hS
  have HBK := Lib.hid hb
  clear hE hL hS hb hB hb'
  cases hd : deepF 20 l with
  | true =>
    rw [hd] at HDP
    clear hd
    go_enter Tryz.func6, Tryz.ntmps6
    go_wp2_with (first
      | (go_at_call 9; refine HWK.out.mono ?_; rintro e w1 ⟨rfl, hk1⟩; have HK1 := Lib.hid hk1; have HD1 := Lib.hid (HDP.out w1 hk1); clear hk1)
      | (go_at_call 10; refine HD1.out.mono ?_; rintro e w2 ⟨rfl, hk2⟩; have HK2 := Lib.hid hk2; clear hk2))
    go_ret
    exact ⟨rfl, HK1.out.nil HK2.out⟩
  | false =>
    rw [hd] at HDP
    clear hd
    have HSEC : Hid ((readF b' = none ∧ ∀ W u, Keep [] w W → RdU W u b' → Calls Tryz.prog 19 #[u] W fun e w' => e = .returned (.tuple #[.slice none 0 0, .int .i64 300]) ∧ Keep [] W w') ∨
        ∃ m', (∀ W u, Keep [] w W → RdU W u b' → Calls Tryz.prog 19 #[u] W fun e w' => ∃ u2, e = .returned (.tuple #[u2, .int .i64 0]) ∧ Lies 10 (fun x => W.heap.size ≤ x ∧ x < w'.heap.size) w' u2 m' ∧ Keep [] W w') ∧
          (∀ W W0 u2, Keep [] w W → Lies 10 (fun x => W0 ≤ x ∧ x < W.heap.size) W u2 m' → Calls Tryz.prog 11 #[u2] W fun e w' => ∃ A2 c2, e = .returned (.tuple #[.slice A2 b'.length c2, .int .i64 0]) ∧ RdU w' (.slice A2 b'.length c2) b' ∧ Keep [] W w') ∧
          (∀ W W0 W1 u2, Keep [] w W → Keep [] W W1 → Lies 10 (fun x => W0 ≤ x ∧ x < W.heap.size) W u2 m' → Calls Tryz.prog 15 #[u2] W1 fun e w' => e = .returned (.int .i64 0) ∧ Keep [] W1 w')) := by
      cases hr : readF b' with
      | none =>
        refine .inl ⟨rfl, fun W u hW hu => (HLB.out W u hW hu).mono fun e w' h => ?_⟩
        unfold LiftA at h
        rw [hr] at h
        exact ⟨h.2, h.1⟩
      | some x =>
        obtain ⟨P, ops, m'⟩ := x
        obtain ⟨hl1, hm1, hf, hc⟩ := readF_some hr
        have hbm : bulkF 10 m' ≤ 900000000 := small_b (by omega) P ops m' hl1 hm1
        refine .inr ⟨m', fun W u hW hu => (HLB.out W u hW hu).mono fun e w' h => ?_, fun W W0 u2 hW hu => ?_, fun W W0 W1 u2 hW hW1 hu => ?_⟩
        · unfold LiftA at h
          rw [hr] at h
          obtain ⟨h1, u2, h2, h3⟩ := h
          exact ⟨u2, h2, h3, h1⟩
        · refine (ccompile_any 10 m' _ u2 B W (HE.out.keep hW (by simp)) hu (fun x hx => hx.2) hbm).mono ?_
          rintro e w' ⟨h, hk⟩
          rw [hf, hc] at h
          rcases h with h | h | h
          · exact absurd rfl h.1
          · omega
          · obtain ⟨-, -, u, rfl, ho⟩ := h
            obtain ⟨A2, c2, rfl⟩ := ho.form
            exact ⟨A2, c2, rfl, ho.reads, hk⟩
        · have h := mcheck_all 10 m' _ u2 B W1 (HE.out.keep (hW.nil hW1) (by simp)) (hu.keep hW1 (by simp)) (fun x hx => Nat.lt_of_lt_of_le hx.2 hW1.size) hbm
          rw [hf] at h
          exact h
    have HFST : Hid ((∃ er : Int, (er == 0) = false ∧ ∀ W, Keep [] w W → Calls Tryz.prog 11 #[.slice A m cap] W fun e w' => e = .returned (.tuple #[.slice none 0 0, .int .i64 er]) ∧ Keep [] W w') ∨
        ∃ C : List UInt8, (∀ W, Keep [] w W → Calls Tryz.prog 11 #[.slice A m cap] W fun e w' => ∃ A1 c1, e = .returned (.tuple #[.slice A1 C.length c1, .int .i64 0]) ∧ RdU w' (.slice A1 C.length c1) C ∧ Keep [] W w') ∧
          (∀ W u, Keep [] w W → RdU W u C → Calls Tryz.prog 19 #[u] W fun e w' => ∃ UA um uc, e = .returned (.tuple #[.slice UA um uc, .int .i64 0]) ∧ Lies 10 (fun x => W.heap.size ≤ x ∧ x < w'.heap.size) w' (.slice UA um uc) l ∧ Keep [] W w') ∧
          (∀ W W0 u, Keep [] w W → Lies 10 (fun x => W0 ≤ x ∧ x < W.heap.size) W u l → Calls Tryz.prog 18 #[u, .slice A m cap] W fun e w' => e = .returned (.bool true) ∧ Keep [] W w') ∧
          (∀ W u, Keep [] w W → RdU W u C → Calls Tryz.prog 20 #[u] W fun e w' => e = .returned (.int .i64 0) ∧ Keep [] W w')) := by
      by_cases hf : (formF n l).2 = 0
      · by_cases hlen : (codeF n l).length ≤ 262144
        · have hn := HL.out.dp
          obtain ⟨h10, hc10, hrd⟩ := read_code hn hf
          have hsm := small_code hn hf
          obtain ⟨-, -, -, hb8⟩ := form_fine hf
          refine .inr ⟨codeF n l, fun W hW => (HCO.out W hW).mono ?_, fun W u hW hu => (clift_any W B u _ (HE.out.keep hW (by simp)) hu (by omega) hsm).mono fun e w' h => ?_, fun W W0 u hW hu => ?_, fun W u hW hu => ?_⟩
          · rintro e w' ⟨h, hk⟩
            rcases h with h | h | h
            · exact absurd hf h.1
            · omega
            · obtain ⟨-, -, u, rfl, ho⟩ := h
              obtain ⟨A1, c1, rfl⟩ := ho.form
              exact ⟨A1, c1, rfl, ho.reads, hk⟩
          · unfold LiftA at h
            rw [hrd] at h
            obtain ⟨h1, u2, h2, h3⟩ := h
            obtain ⟨UA, um, uc, rfl⟩ := h3.form
            exact ⟨UA, um, uc, h2, h3, h1⟩
          · have hN1 : n ≤ max n 10 := Nat.le_max_left _ _
            have hN2 : 10 ≤ max n 10 := Nat.le_max_right _ _
            have hbN : bulkF (max n 10) l = bulkF n l := bulk_dp _ _ l (hn.le hN1) hn
            have h := same_any (max n 10) l l _ S u _ W (hu.le hN2) ((HL.out.keep hW (by simp)).le hN1) (by omega) (by omega)
            rw [sameF_self] at h
            exact h
          · have h := cverify_any W B u _ (HE.out.keep hW (by simp)) hu (by omega) hsm
            rw [hrd] at h
            exact h
        · refine .inl ⟨3, rfl, fun W hW => (HCO.out W hW).mono ?_⟩
          rintro e w' ⟨h, hk⟩
          rcases h with h | h | h
          · exact absurd hf h.1
          · exact ⟨h.2.2, hk⟩
          · omega
      · refine .inl ⟨(formF n l).2, by simpa using hf, fun W hW => (HCO.out W hW).mono ?_⟩
        rintro e w' ⟨h, hk⟩
        rcases h with h | h | h
        · exact ⟨h.2, hk⟩
        · exact absurd h.1 hf
        · exact absurd h.1 hf
    clear HLB HCO
    rcases HFST.out with ⟨er, her, hc1⟩ | ⟨C, hc1, hla, hsa, hva⟩
    · have HC1 := Lib.hid hc1
      clear hc1 HFST
      rcases HSEC.out with ⟨-, hl2⟩ | ⟨m', hl2, hcb, hck⟩
      · have HL2 := Lib.hid hl2
        clear hl2 HSEC
        go_enter Tryz.func6, Tryz.ntmps6
        go_wp2_with (first
        | (go_at_call 9; refine HWK.out.mono ?_; rintro e w1 ⟨rfl, hk1⟩; have HK := Lib.hid hk1; have HD1 := Lib.hid (HDP.out w1 hk1); clear hk1)
        | (go_at_call 10; refine HD1.out.mono ?_; rintro e w2 ⟨rfl, hk2⟩; have hk := HK.out.nil hk2; have HC := Lib.hid (HC1.out w2 hk); clear HK HD1 hk2; have HK := Lib.hid hk; clear hk)
        | (go_at_call 11; with_reducible refine HC.out.mono ?_; rintro e w3 ⟨rfl, hk3⟩; have hk := HK.out.nil hk3; clear HK HC hk3; have HK := Lib.hid hk; clear hk)
        | (go_at_call 21; refine (HCT.out _ HK.out).mono ?_; rintro e w7 ⟨v7, rfl, hr7, rfl⟩; have HLL := Lib.hid (HL2.out _ v7 HK.out hr7); have HR7 := Lib.hid hr7; obtain ⟨A7, c7, rfl⟩ : ∃ A7 c7, v7 = .slice A7 b'.length c7 := (by obtain ⟨A7, c7, h7, _⟩ := hr7; exact ⟨A7, c7, h7⟩); clear hr7)
        | (go_at_call 19; with_reducible refine HLL.out.mono ?_; rintro e w8 ⟨rfl, hk8⟩; have hk := HK.out.nil hk8; clear HK HLL hk8; have HK := Lib.hid hk; clear hk))
        go_ret
        exact ⟨rfl, HK.out⟩
      · have HL2 := Lib.hid hl2
        have HCB := Lib.hid hcb
        have HCK := Lib.hid hck
        clear hl2 hcb hck HSEC
        go_enter Tryz.func6, Tryz.ntmps6
        go_wp2_with (first
        | (go_at_call 9; refine HWK.out.mono ?_; rintro e w1 ⟨rfl, hk1⟩; have HK := Lib.hid hk1; have HD1 := Lib.hid (HDP.out w1 hk1); clear hk1)
        | (go_at_call 10; refine HD1.out.mono ?_; rintro e w2 ⟨rfl, hk2⟩; have hk := HK.out.nil hk2; have HC := Lib.hid (HC1.out w2 hk); clear HK HD1 hk2; have HK := Lib.hid hk; clear hk)
        | (go_at_call 11; with_reducible refine HC.out.mono ?_; rintro e w3 ⟨rfl, hk3⟩; have hk := HK.out.nil hk3; clear HK HC hk3; have HK := Lib.hid hk; clear hk)
        | (go_at_call 21; refine (HCT.out _ HK.out).mono ?_; rintro e w7 ⟨v7, rfl, hr7, rfl⟩; have HLL := Lib.hid (HL2.out _ v7 HK.out hr7); have HR7 := Lib.hid hr7; obtain ⟨A7, c7, rfl⟩ : ∃ A7 c7, v7 = .slice A7 b'.length c7 := (by obtain ⟨A7, c7, h7, _⟩ := hr7; exact ⟨A7, c7, h7⟩); clear hr7)
        | (go_at_call 19; with_reducible refine HLL.out.mono ?_; rintro e w8 ⟨u2, rfl, hu2, hk8⟩; have hk := HK.out.nil hk8; have HCC := Lib.hid (HCB.out w8 _ u2 hk hu2); have HU2 := Lib.hid hu2; have HR8 := Lib.hid (HR7.out.keep hk8); have HK8 := Lib.hid hk; obtain ⟨VA, vm, vc, rfl⟩ := hu2.form; clear HK HLL hk8 hu2 HR7; have HK := Lib.hid hk; clear hk)
        | (go_at_call 11; with_reducible refine HCC.out.mono ?_; rintro e w9 ⟨A9, c9, rfl, hr9, hk9⟩; have hk := HK.out.nil hk9; have HEQ := Lib.hid (equalU_any w9 _ _ b' b' hr9 (HR8.out.keep hk9)); rw [decide_eq_true rfl] at HEQ; have HKC := Lib.hid (HCK.out w8 _ w9 _ HK8.out hk9 HU2.out); clear HK HCC hk9 hr9 HR8; have HK := Lib.hid hk; clear hk)
        | (go_at_call 17; with_reducible refine HEQ.out.mono ?_; rintro e w10 ⟨rfl, rfl⟩)
        | (go_at_call 15; with_reducible refine HKC.out.mono ?_; rintro e w11 ⟨rfl, hk11⟩; have hk := HK.out.nil hk11; clear HK HKC hk11; have HK := Lib.hid hk; clear hk))
        go_ret
        exact ⟨rfl, HK.out⟩
    · have HC1 := Lib.hid hc1
      have HLA := Lib.hid hla
      have HSA := Lib.hid hsa
      have HVA := Lib.hid hva
      clear hc1 hla hsa hva HFST
      rcases HSEC.out with ⟨-, hl2⟩ | ⟨m', hl2, hcb, hck⟩
      · have HL2 := Lib.hid hl2
        clear hl2 HSEC
        go_enter Tryz.func6, Tryz.ntmps6
        go_wp2_with (first
        | (go_at_call 9; refine HWK.out.mono ?_; rintro e w1 ⟨rfl, hk1⟩; have HK := Lib.hid hk1; have HD1 := Lib.hid (HDP.out w1 hk1); clear hk1)
        | (go_at_call 10; refine HD1.out.mono ?_; rintro e w2 ⟨rfl, hk2⟩; have hk := HK.out.nil hk2; have HC := Lib.hid (HC1.out w2 hk); clear HK HD1 hk2; have HK := Lib.hid hk; clear hk)
        | (go_at_call 11; with_reducible refine HC.out.mono ?_; rintro e w3 ⟨A1, c1, rfl, hr1, hk3⟩; have hk := HK.out.nil hk3; have HLX := Lib.hid (HLA.out w3 _ hk hr1); have HR1 := Lib.hid hr1; clear HK HC hk3 hr1; have HK := Lib.hid hk; clear hk)
        | (go_at_call 19; with_reducible refine HLX.out.mono ?_; rintro e w4 ⟨UA, um, uc, rfl, hu, hk4⟩; have hk := HK.out.nil hk4; have HSX := Lib.hid (HSA.out w4 _ _ hk hu); have HR4 := Lib.hid (HR1.out.keep hk4); clear HK HLX hk4 hu HR1; have HK := Lib.hid hk; clear hk)
        | (go_at_call 18; with_reducible refine HSX.out.mono ?_; rintro e w5 ⟨rfl, hk5⟩; have hk := HK.out.nil hk5; have HVX := Lib.hid (HVA.out w5 _ hk (HR4.out.keep hk5)); clear HK HSX hk5 HR4; have HK := Lib.hid hk; clear hk)
        | (go_at_call 20; with_reducible refine HVX.out.mono ?_; rintro e w6 ⟨rfl, hk6⟩; have hk := HK.out.nil hk6; clear HK HVX hk6; have HK := Lib.hid hk; clear hk)
        | (go_at_call 21; refine (HCT.out _ HK.out).mono ?_; rintro e w7 ⟨v7, rfl, hr7, rfl⟩; have HLL := Lib.hid (HL2.out _ v7 HK.out hr7); have HR7 := Lib.hid hr7; obtain ⟨A7, c7, rfl⟩ : ∃ A7 c7, v7 = .slice A7 b'.length c7 := (by obtain ⟨A7, c7, h7, _⟩ := hr7; exact ⟨A7, c7, h7⟩); clear hr7)
        | (go_at_call 19; with_reducible refine HLL.out.mono ?_; rintro e w8 ⟨rfl, hk8⟩; have hk := HK.out.nil hk8; clear HK HLL hk8; have HK := Lib.hid hk; clear hk))
        go_ret
        exact ⟨rfl, HK.out⟩
      · have HL2 := Lib.hid hl2
        have HCB := Lib.hid hcb
        have HCK := Lib.hid hck
        clear hl2 hcb hck HSEC
        go_enter Tryz.func6, Tryz.ntmps6
        go_wp2_with (first
        | (go_at_call 9; refine HWK.out.mono ?_; rintro e w1 ⟨rfl, hk1⟩; have HK := Lib.hid hk1; have HD1 := Lib.hid (HDP.out w1 hk1); clear hk1)
        | (go_at_call 10; refine HD1.out.mono ?_; rintro e w2 ⟨rfl, hk2⟩; have hk := HK.out.nil hk2; have HC := Lib.hid (HC1.out w2 hk); clear HK HD1 hk2; have HK := Lib.hid hk; clear hk)
        | (go_at_call 11; with_reducible refine HC.out.mono ?_; rintro e w3 ⟨A1, c1, rfl, hr1, hk3⟩; have hk := HK.out.nil hk3; have HLX := Lib.hid (HLA.out w3 _ hk hr1); have HR1 := Lib.hid hr1; clear HK HC hk3 hr1; have HK := Lib.hid hk; clear hk)
        | (go_at_call 19; with_reducible refine HLX.out.mono ?_; rintro e w4 ⟨UA, um, uc, rfl, hu, hk4⟩; have hk := HK.out.nil hk4; have HSX := Lib.hid (HSA.out w4 _ _ hk hu); have HR4 := Lib.hid (HR1.out.keep hk4); clear HK HLX hk4 hu HR1; have HK := Lib.hid hk; clear hk)
        | (go_at_call 18; with_reducible refine HSX.out.mono ?_; rintro e w5 ⟨rfl, hk5⟩; have hk := HK.out.nil hk5; have HVX := Lib.hid (HVA.out w5 _ hk (HR4.out.keep hk5)); clear HK HSX hk5 HR4; have HK := Lib.hid hk; clear hk)
        | (go_at_call 20; with_reducible refine HVX.out.mono ?_; rintro e w6 ⟨rfl, hk6⟩; have hk := HK.out.nil hk6; clear HK HVX hk6; have HK := Lib.hid hk; clear hk)
        | (go_at_call 21; refine (HCT.out _ HK.out).mono ?_; rintro e w7 ⟨v7, rfl, hr7, rfl⟩; have HLL := Lib.hid (HL2.out _ v7 HK.out hr7); have HR7 := Lib.hid hr7; obtain ⟨A7, c7, rfl⟩ : ∃ A7 c7, v7 = .slice A7 b'.length c7 := (by obtain ⟨A7, c7, h7, _⟩ := hr7; exact ⟨A7, c7, h7⟩); clear hr7)
        | (go_at_call 19; with_reducible refine HLL.out.mono ?_; rintro e w8 ⟨u2, rfl, hu2, hk8⟩; have hk := HK.out.nil hk8; have HCC := Lib.hid (HCB.out w8 _ u2 hk hu2); have HU2 := Lib.hid hu2; have HR8 := Lib.hid (HR7.out.keep hk8); have HK8 := Lib.hid hk; obtain ⟨VA, vm, vc, rfl⟩ := hu2.form; clear HK HLL hk8 hu2 HR7; have HK := Lib.hid hk; clear hk)
        | (go_at_call 11; with_reducible refine HCC.out.mono ?_; rintro e w9 ⟨A9, c9, rfl, hr9, hk9⟩; have hk := HK.out.nil hk9; have HEQ := Lib.hid (equalU_any w9 _ _ b' b' hr9 (HR8.out.keep hk9)); rw [decide_eq_true rfl] at HEQ; have HKC := Lib.hid (HCK.out w8 _ w9 _ HK8.out hk9 HU2.out); clear HK HCC hk9 hr9 HR8; have HK := Lib.hid hk; clear hk)
        | (go_at_call 17; with_reducible refine HEQ.out.mono ?_; rintro e w10 ⟨rfl, rfl⟩)
        | (go_at_call 15; with_reducible refine HKC.out.mono ?_; rintro e w11 ⟨rfl, hk11⟩; have hk := HK.out.nil hk11; clear HK HKC hk11; have HK := Lib.hid hk; clear hk))
        go_ret
        exact ⟨rfl, HK.out⟩
end Go.Proofs.YtmfoiceofhcicaaGreatDoor

namespace Go.Proofs.YtmfoiceofhcicaaGreatDoor

theorem sameC_eq {K : List PT → List PT → Bool} : ∀ {a b : List CT}, (∀ c ∈ a, ∀ m, K c.2 m = true → c.2 = m) → sameC K a b = true → a = b
  | [], [], _, _ => rfl
  | [], _ :: _, _, h => by cases h
  | _ :: _, [], _, h => by cases h
  | c :: cs, d :: ds, hK, h => by
    simp only [sameC, Bool.and_eq_true, decide_eq_true_iff] at h
    have e2 := sameC_eq (fun x hx => hK x (List.mem_cons_of_mem _ hx)) h.2
    have e := hK c (List.mem_cons_self ..) _ h.1.2
    rw [e2, show c = d from Prod.ext h.1.1 e]
theorem sameL_eq {K : List PT → List PT → Bool} : ∀ {a b : List PT}, (∀ p ∈ a, ∀ c ∈ p.cs, ∀ m, K c.2 m = true → c.2 = m) → sameL K a b = true → a = b
  | [], [], _, _ => rfl
  | [], _ :: _, _, h => by cases h
  | _ :: _, [], _, h => by cases h
  | p :: a, q :: b, hK, h => by
    simp only [sameL, sameP, Bool.and_eq_true, decide_eq_true_iff] at h
    obtain ⟨⟨⟨⟨⟨⟨⟨h1, h2⟩, h3⟩, h4⟩, h5⟩, h6⟩, h7⟩, h8⟩ := h
    have e2 := sameL_eq (fun x hx => hK x (List.mem_cons_of_mem _ hx)) h8
    have e := sameC_eq (hK p (List.mem_cons_self ..)) h7
    rw [e2]
    cases p
    cases q
    simp only at h1 h2 h3 h4 h5 h6 e
    subst h1 h2 h3 h4 h5 h6 e
    rfl
/-- Parts that are the same are one. -/
theorem same_eq : ∀ {n : Nat} {a b : List PT}, Dp n a → sameF n a b = true → a = b
  | 0, _, _, h, _ => h.elim
  | _ + 1, _, _, h, hs => sameL_eq (fun p hp c hc _ hm => same_eq (h p hp c hc) hm) hs

def sumT : List ByteArray → Nat
  | [] => 0
  | s :: r => 2 + s.size + sumT r
theorem sumT_append : ∀ a b : List ByteArray, sumT (a ++ b) = sumT a + sumT b
  | [], b => by simp [sumT]
  | s :: a, b => by
    simp only [List.cons_append, sumT, sumT_append a b]
    omega
theorem tabT_len : ∀ P : List ByteArray, (tabT P).length = sumT P
  | [] => rfl
  | s :: P => by
    simp only [tabT, sumT, List.length_append, w16_len, tabT_len P]
    simp
theorem sumT_add (s : ByteArray) : ∀ r : List ByteArray, sumT (addT r s) ≤ sumT r + (2 + s.size)
  | [] => by simp [addT, sumT]
  | x :: r => by
    have := sumT_add s r
    unfold addT
    split
    · simp only [sumT]; omega
    · split
      · simp only [sumT]; omega
      · simp only [sumT]; omega
theorem sumT_fold : ∀ (ts r : List ByteArray), sumT (ts.foldl addT r) ≤ sumT ts + sumT r
  | [], r => by simp [sumT]
  | s :: ts, r => by
    have h1 := sumT_fold ts (addT r s)
    have h2 := sumT_add s r
    rw [List.foldl_cons]
    simp only [sumT]
    omega
theorem sumT_pool (ts : List ByteArray) : sumT (poolF ts) ≤ sumT ts := by
  have := sumT_fold ts []
  unfold poolF
  simpa [sumT] using this
theorem sumT_opt (t : ByteArray) (X : List UInt8) : sumT (optT t) ≤ 2 + (if noB t then [] else X ++ t.data.toList : List UInt8).length := by
  unfold optT
  split
  · exact Nat.zero_le _
  · have : t.data.toList.length = t.size := by simp
    simp only [sumT, List.length_append]
    omega
section
variable {L : List PT → Nat} {T : List PT → List ByteArray}
theorem lenC_write {W : List PT → List UInt8} {R : List PT → Bool} {k : Int} (hI : ∀ m, R m = true → L m + sumT (T m) ≤ 14 * (W m).length) : ∀ (cs : List CT) (ks : List ByteArray) (b : Bool), caseR R k ks cs = true → 6 * cs.length + lenC L cs + sumT (caseT T cs) ≤ 14 * (caseW W b cs).length
  | [], _, _, _ => by simp [lenC, caseT, sumT]
  | c :: cs, ks, b, h => by
    simp only [caseR, Bool.and_eq_true] at h
    have h1 := lenC_write hI cs _ true h.2
    have h2 := hI c.2 h.1.2
    have h3 : c.1.data.toList.length = c.1.size := by simp
    simp only [lenC, caseT, caseW, sumT, sumT_append, List.length_append, List.length_cons, List.length_nil]
    omega
theorem lenP_write {W : List PT → Bool → List UInt8} {R : List PT → Bool → Bool} (hI : ∀ m h, R m h = true → L m + sumT (T m) ≤ 14 * (W m h).length) (p : PT) (h : Bool) (hp : plainB p h = true) (hc : caseR (fun m => R m (decide (p.k ≠ 4))) p.k [] p.cs = true) :
    lenP L p + sumT (partT T p) ≤ 14 * (partW W h p).length := by
  have hn : p.nm.data.toList.length = p.nm.size := by simp
  unfold plainB at hp
  unfold partW lenP partT
  by_cases h1 : p.k = 1
  · rw [if_pos h1] at hp ⊢
    rw [if_pos h1, if_pos h1]
    simp only [Bool.and_eq_true, Bool.not_eq_true', decide_eq_true_iff] at hp
    obtain ⟨⟨⟨⟨⟨⟨a1, a2⟩, a3⟩, a4⟩, a5⟩, a6⟩, a7⟩ := hp
    have hd := dressL_ge h p.tx.data.toList
    have ht : p.tx.data.toList.length = p.tx.size := by simp
    have h0 : p.tx.size ≠ 0 := of_decide_eq_false a1
    simp only [sumT]
    omega
  · rw [if_neg h1] at hp ⊢
    rw [if_neg h1, if_neg h1]
    by_cases h2 : p.k = 2
    · rw [if_pos h2, if_pos h2, if_pos h2]
      simp [sumT]
    · rw [if_neg h2] at hp ⊢
      rw [if_neg h2, if_neg h2]
      by_cases h3 : p.k = 3
      · rw [if_pos h3, if_pos h3, if_pos h3]
        have e1 := sumT_opt p.ty [44, 32]
        have e2 := sumT_opt p.st [44, 32]
        simp only [sumT, sumT_append, List.length_append, List.length_cons, List.length_nil] at e1 e2 ⊢
        omega
      · rw [if_neg h3] at hp ⊢
        rw [if_neg h3, if_neg h3]
        by_cases h4 : p.k = 4 ∨ p.k = 5 ∨ p.k = 6
        · rw [if_pos h4]
          have hb := lenC_write (W := fun m => W m (decide (p.k ≠ 4))) (fun m hm => hI m _ hm) p.cs [] false hc
          simp only [sumT, List.length_append, List.length_cons, List.length_nil]
          omega
        · rw [if_neg h4] at hp
          cases hp
theorem lenL_write {W : List PT → Bool → List UInt8} {R : List PT → Bool → Bool} (hI : ∀ m h, R m h = true → L m + sumT (T m) ≤ 14 * (W m h).length) (h : Bool) : ∀ (l : List PT) (q : Int), rightL R h q l = true → lenL L l + sumT (textL T l) ≤ 14 * (writeL W h l).length
  | [], _, _ => by simp [lenL, textL, sumT]
  | p :: l, q, hr => by
    simp only [rightL, Bool.and_eq_true] at hr
    have h1 := lenL_write hI h l _ hr.2
    have h2 := lenP_write hI p h hr.1.1.1.1 hr.1.1.2
    simp only [lenL, textL, writeL, sumT_append, List.length_append]
    omega
end
theorem len_write : ∀ (n : Nat) (l : List PT) (h : Bool), rightF n l h = true → lenF n l + sumT (textF n l) ≤ 14 * (writeF n l h).length
  | 0, _, _, h => by cases h
  | n + 1, l, h, hr => lenL_write (len_write n) h l 0 hr
/-- A message's code is short, and never empty. -/
theorem code_short {n : Nat} {l : List PT} (h : (formF n l).2 = 0) : (codeF n l).length ≤ 57351 ∧ 7 ≤ (codeF n l).length := by
  have hr := (form_fine h).1
  have hw : (writeF n l false).length ≤ 4096 := by
    unfold formF at h
    rw [hr, if_neg (by decide)] at h
    split at h
    · cases h
    · omega
  have h1 := len_write n l false hr
  have h2 := sumT_pool (textF n l)
  have h3 := tabT_len (poolF (textF n l))
  unfold codeF
  simp only [List.length_append, w16_len, w32_len, codF_len, List.length_cons, List.length_nil]
  omega
/-- A code of another message is no other's: what is read of other bytes is another message. -/
theorem read_other {n : Nat} {l m : List PT} {y : List UInt8} {P : List ByteArray} {ops : List OT} (hn : Dp n l) (hf : (formF n l).2 = 0) (hy : y ≠ codeF n l) (h : readF y = some (P, ops, m)) (N : Nat) (hN : 10 ≤ N) (hm : Dp 10 m) : sameF N m l = false := by
  cases hs : sameF N m l with
  | false => rfl
  | true =>
    obtain ⟨-, -, -, hc⟩ := readF_some h
    obtain rfl := same_eq (hm.le hN) hs
    obtain ⟨-, hc2, -⟩ := read_code hn hf
    exact absurd (hc.symm.trans hc2) hy
end Go.Proofs.YtmfoiceofhcicaaGreatDoor

namespace Go.Proofs.YtmfoiceofhcicaaGreatDoor
open Go.RowKit Go.IntWalk

/-- append of bytes to bytes of the call's own, at a step of a region that draws its order. -/
theorem step_append_us {ops : Array Oper} {o : Oper} {a : Act} {K : Act → World → Prop} {Q : Exit → Act → World → Prop} {E : Prop} (hgd : o.guard = none) (s x : Operand)
    (ho : o.op = .call { callee := .builtin .append, args := #[s, x], argTypes := #[25, 25] }) {w : World} {B : Nat} {v : Value} {l : List UInt8}
    (hs : a.eval s = v) (hown : OwnU w B v l) (ys : List UInt8) (ad : Addr) (cap m : Nat) (hm : m = ys.length) (hx : a.eval x = .slice (some ad) m cap) (hc : ∀ j u, (ys.map cellU)[j]? = some u → w.cell? (ad.add j) = some u)
    (hlen : l.length + ys.length ≤ 1000000000000) (hB : B ≤ w.heap.size)
    (h : ∀ A' cap' w', OwnU w' B (.slice A' (l.length + m) cap') (l ++ ys) → Keep v.ownBlock.toList w w' → K (a.put o.dst (.slice A' (l.length + m) cap')) w') :
    if Region.wanted o (yielded ops a.tmps) = true then Oper.wp Tryz.prog o a w K Q else E := by
  have hw : Region.wanted o (yielded ops a.tmps) = true := by simp [Region.wanted, hgd]
  rw [if_pos hw]
  subst hm
  obtain ⟨i0, hi, hz0, hz1, hz2⟩ := info_parts infoU
  refine wp_append_own _ s x 25 ho B 5 i0 _ 1 1 Tryz.underlying25 hi hz0 hz1 hz2 rfl (by decide) v l.length (l.map cellU) hs hown ad ys.length cap (ys.map cellU) hx (by simp) hc ?_ (by unfold maxLen; omega) (by omega) hB ?_
  · intro u hu
    obtain ⟨b, _, rfl⟩ := List.mem_map.1 hu
    rfl
  · intro v' w' h1 h2 _
    have hO : OwnU w' B v' (l ++ ys) := by
      unfold OwnU
      rw [List.map_append, List.length_append]
      exact h1
    obtain ⟨A', cap', hv'⟩ := hO.form
    rw [List.length_append] at hv'
    subst hv'
    exact h A' cap' w' hO ((Keep.refl _ w).grown h2 fun k hk => .inl (by simpa using hk))
/-- append of bytes to none. -/
theorem step_copy_u {ops : Array Oper} {o : Oper} {a : Act} {K : Act → World → Prop} {Q : Exit → Act → World → Prop} {E : Prop} (hgd : o.guard = none) (s x : Operand)
    (ho : o.op = .call { callee := .builtin .append, args := #[s, x], argTypes := #[25, 25] }) {w : World} {B n : Nat}
    (hs : a.eval s = .slice (some ⟨n, 0, none⟩) 0 0) (hown : OwnU w B (.slice (some ⟨n, 0, none⟩) 0 0) []) (C : List UInt8) (ad : Addr) (cap : Nat) (hx : a.eval x = .slice (some ad) C.length cap) (hc : ∀ j u, (C.map cellU)[j]? = some u → w.cell? (ad.add j) = some u)
    (hlen : C.length ≤ 1000000000) (hB : B ≤ w.heap.size)
    (h : ∀ A' cap' w', OwnU w' B (.slice A' C.length cap') C → Keep [n] w w' → K (a.put o.dst (.slice A' C.length cap')) w') :
    if Region.wanted o (yielded ops a.tmps) = true then Oper.wp Tryz.prog o a w K Q else E :=
  step_append_us hgd s x ho hs hown C ad cap C.length rfl hx hc (by simp; omega) hB fun A' cap' w' h1 h2 => by
    have e : ([] : List UInt8).length + C.length = C.length := by simp
    rw [e] at h1 ⊢
    exact h A' cap' w' (by simpa using h1) (by simpa [Value.ownBlock] using h2)
/-- append of one byte. -/
theorem step_snoc_u {ops : Array Oper} {o : Oper} {a : Act} {K : Act → World → Prop} {Q : Exit → Act → World → Prop} {E : Prop} (hgd : o.guard = none) (s x : Operand)
    (ho : o.op = .call { callee := .builtin .append, args := #[s, x], argTypes := #[25, 25] }) {w : World} {B n : Nat} {A : Option Addr} {cap : Nat} {C : List UInt8}
    (hs : a.eval s = .slice A C.length cap) (hown : OwnU w B (.slice A C.length cap) C) (y : UInt8) (hx : a.eval x = .slice (some ⟨n, 0, none⟩) 1 1) (hc : w.cell? ⟨n, 0, none⟩ = some (cellU y))
    (hlen : C.length ≤ 1000000000) (hB : B ≤ w.heap.size)
    (h : ∀ A' cap' w', OwnU w' B (.slice A' (C.length + 1) cap') (C ++ [y]) → Keep (Value.slice A C.length cap).ownBlock.toList w w' → K (a.put o.dst (.slice A' (C.length + 1) cap')) w') :
    if Region.wanted o (yielded ops a.tmps) = true then Oper.wp Tryz.prog o a w K Q else E :=
  step_append_us hgd s x ho hs hown [y] ⟨n, 0, none⟩ 1 1 rfl hx (fun j u hu => by
    cases j with
    | zero =>
      obtain rfl : cellU y = u := by simpa using hu
      exact hc
    | succ j => simp at hu) (by simp; omega) hB h
theorem OwnU.made2 (w : World) (B n : Nat) (h : w.heap.size = n) (hB : B ≤ n) : OwnU (w.alloc (.cells #[] 5)) B (.slice (some ⟨n, 0, none⟩) 0 0) [] := by
  subst h
  exact (OwnU.made w).le hB
theorem keepC {w W : World} {C : List UInt8} {b o : Nat} (h : ∀ j u, (C.map cellU)[j]? = some u → w.cell? ((⟨b, o, none⟩ : Addr).add j) = some u) (hb : b < w.heap.size) (hK : Keep [] w W) : ∀ j u, (C.map cellU)[j]? = some u → W.cell? ((⟨b, o, none⟩ : Addr).add j) = some u := fun j u hu => by
  have h2 := h j u hu
  have hadd : (⟨b, o, none⟩ : Addr).add j = ⟨b, o + j, none⟩ := by unfold Addr.add; split <;> simp_all
  rw [hadd] at h2 ⊢
  exact (hK.cell (p := ⟨b, o + j, none⟩) hb (by simp)).trans h2
theorem rem_place (z : Int) (n : Nat) (h0 : 0 < n) (hn : n ≤ 1000000000) : ∃ k : Nat, k < n ∧ wrap64 ((IntKind.u64.wrap z).tmod (n : Int)) = (k : Int) := by
  have h1 : 0 ≤ IntKind.u64.wrap z := by rw [IntKind.wrap_u64]; omega
  rw [Int.tmod_eq_emod_of_nonneg h1]
  generalize IntKind.u64.wrap z = q at *
  refine ⟨(q % (n : Int)).toNat, ?_, ?_⟩
  · have := Int.emod_lt_of_pos q (show (0 : Int) < (n : Int) by omega)
    have := Int.emod_nonneg q (show (n : Int) ≠ 0 by omega)
    omega
  · have := Int.emod_lt_of_pos q (show (0 : Int) < (n : Int) by omega)
    have := Int.emod_nonneg q (show (n : Int) ≠ 0 by omega)
    unfold wrap64
    omega
theorem idx_a2 (W : World) (a b : Value) : (Instr.index 46 (.agg #[a, b]) (.int .i64 0)).run Tryz.prog W = .ok a W := by
  simp [Instr.index, go_sem]
theorem idx_b2 (W : World) (a b : Value) : (Instr.index 46 (.agg #[a, b]) (.int .i64 1)).run Tryz.prog W = .ok b W := by
  simp [Instr.index, go_sem]
theorem xor_u8 (a b : UInt8) : bits .xor .u8 (a.toNat : Int) (b.toNat : Int) = ((a ^^^ b).toNat : Int) := by
  have h1 : (BitVec.ofInt 8 (a.toNat : Int)).toNat = a.toNat := by
    rw [BitVec.ofInt_natCast, BitVec.toNat_ofNat]
    exact Nat.mod_eq_of_lt a.toNat_lt
  have h2 : (BitVec.ofInt 8 (b.toNat : Int)).toNat = b.toNat := by
    rw [BitVec.ofInt_natCast, BitVec.toNat_ofNat]
    exact Nat.mod_eq_of_lt b.toNat_lt
  have h3 := (a ^^^ b).toNat_lt
  show IntKind.u8.wrap ((BitVec.ofInt 8 (a.toNat : Int) ^^^ BitVec.ofInt 8 (b.toNat : Int)).toNat : Int) = _
  rw [BitVec.toNat_xor, h1, h2, ← UInt8.toNat_xor, IntKind.wrap_u8]
  omega
theorem turn_same {C : List UInt8} {k : Nat} (hk : k < C.length) : C.set k (C.getD k 0 ^^^ 0) = C := by
  rw [UInt8.xor_zero, List.getD_eq_getElem?_getD, List.getElem?_eq_getElem hk]
  exact List.set_getElem_self hk
theorem turn_other {C : List UInt8} {k : Nat} {x : UInt8} (hk : k < C.length) (hx : x ≠ 0) : C.set k (C.getD k 0 ^^^ x) ≠ C := fun e => by
  have h1 : (C.set k (C.getD k 0 ^^^ x))[k]? = C[k]? := by rw [e]
  rw [List.getElem?_set_self hk, List.getElem?_eq_getElem hk] at h1
  have h2 : C.getD k 0 = C[k] := by rw [List.getD_eq_getElem?_getD, List.getElem?_eq_getElem hk]; rfl
  injection h1 with h1
  rw [h2] at h1
  have h3 : C[k] ^^^ x ^^^ C[k] = C[k] ^^^ C[k] := by rw [h1]
  rw [UInt8.xor_comm (C[k] ^^^ x), ← UInt8.xor_assoc, UInt8.xor_self, UInt8.zero_xor] at h3
  exact hx h3
theorem own_cat {w : World} {B : Nat} {v : Value} {l ys : List UInt8} (h : OwnU w B v (l ++ ys)) : ∃ A cap, v = .slice A (l.length + ys.length) cap := by
  obtain ⟨A, cap, hv⟩ := h.form
  rw [List.length_append] at hv
  exact ⟨A, cap, hv⟩
theorem RdU.pre {w : World} {A : Option Addr} {m c : Nat} {l : List UInt8} (h : RdU w (.slice A m c) l) (k : Nat) (hk : k ≤ l.length) : RdU w (.slice A k c) (l.take k) := by
  obtain ⟨A', c', e, h1, h2, h3⟩ := h
  injection e with e1 e2 e3
  subst e1 e2 e3
  have hl : (l.take k).length = k := by rw [List.length_take]; omega
  refine ⟨A, c, by rw [hl], by omega, h2, fun h0 => ?_⟩
  obtain ⟨b, o, g1, g2, g3, g4⟩ := h3 (by omega)
  refine ⟨b, o, g1, g2, g3, fun j u hu => g4 j u ?_⟩
  rw [List.map_take, List.getElem?_take] at hu
  split at hu
  · exact hu
  · cases hu
theorem RdU.cells {w : World} {A : Option Addr} {m c : Nat} {l : List UInt8} (h : RdU w (.slice A m c) l) (hl : 0 < l.length) : ∃ b o, A = some ⟨b, o, none⟩ ∧ m = l.length ∧ l.length ≤ c ∧ c ≤ maxLen ∧ b < w.heap.size ∧ ∀ j u, (l.map cellU)[j]? = some u → w.cell? ((⟨b, o, none⟩ : Addr).add j) = some u := by
  obtain ⟨A', c', e, h1, h2, h3⟩ := h
  injection e with e1 e2 e3
  subst e1 e2 e3
  obtain ⟨b, o, g1, g2, g3, g4⟩ := h3 hl
  refine ⟨b, o, g1, rfl, h1, h2, g3, fun j u hu => ?_⟩
  have hadd : (⟨b, o, none⟩ : Addr).add j = ⟨b, o + j, none⟩ := by unfold Addr.add; split <;> simp_all
  rw [hadd]
  exact g4 j u hu
end Go.Proofs.YtmfoiceofhcicaaGreatDoor

namespace Go.Proofs.YtmfoiceofhcicaaGreatDoor
open Go.RowKit Go.IntWalk

/-- What Lift tells of bytes that are another message's code, or none's. -/
def NotL (w : World) (L : Value) (y : List UInt8) : Prop :=
  (∀ W u, Keep [] w W → RdU W u y → Calls Tryz.prog 19 #[u] W fun e w' => e = .returned (.tuple #[.slice none 0 0, .int .i64 300]) ∧ Keep [] W w') ∨
  (∀ W u, Keep [] w W → RdU W u y → Calls Tryz.prog 19 #[u] W fun e w' => ∃ UA um uc, e = .returned (.tuple #[.slice UA um uc, .int .i64 0]) ∧ Keep [] W w' ∧
    Calls Tryz.prog 18 #[.slice UA um uc, L] w' fun e w2 => e = .returned (.bool false) ∧ Keep [] w' w2)
theorem lift_not {n : Nat} {l : List PT} {S : Nat → Prop} {v : Value} {B : Nat} {w : World} (hE : EnvM B w) (hL : Lies n S w v l) (hb : bulkF n l ≤ 900000000) (hf : (formF n l).2 = 0) {y : List UInt8} (hy : y ≠ codeF n l) (hyl : y.length ≤ 58000) : NotL w v y := by
  have hn := hL.dp
  cases hr : readF y with
  | none =>
    refine .inl fun W u hW hu => (clift_any W B u y (hE.keep hW (by simp)) hu (by omega) (small_b hyl)).mono fun e w' h => ?_
    unfold LiftA at h
    rw [hr] at h
    exact ⟨h.2, h.1⟩
  | some x =>
    obtain ⟨P, ops, m'⟩ := x
    refine .inr fun W u hW hu => (clift_any W B u y (hE.keep hW (by simp)) hu (by omega) (small_b hyl)).mono fun e w' h => ?_
    unfold LiftA at h
    rw [hr] at h
    obtain ⟨h1, u2, h2, h3⟩ := h
    obtain ⟨UA, um, uc, rfl⟩ := h3.form
    refine ⟨UA, um, uc, h2, h1, ?_⟩
    obtain ⟨hl1, hm1, -, -⟩ := readF_some hr
    have hbm : bulkF 10 m' ≤ 900000000 := small_b hyl P ops m' hl1 hm1
    have hN1 : n ≤ max n 10 := Nat.le_max_left _ _
    have hN2 : 10 ≤ max n 10 := Nat.le_max_right _ _
    have b1 : bulkF (max n 10) l = bulkF n l := bulk_dp _ _ l (hn.le hN1) hn
    have b2 : bulkF (max n 10) m' = bulkF 10 m' := bulk_dp _ _ m' (h3.dp.le hN2) h3.dp
    have h := same_any (max n 10) m' l _ S (.slice UA um uc) v w' (h3.le hN2) ((hL.keep (hW.nil h1) (by simp)).le hN1) (by omega) (by omega)
    rw [read_other hn hf hy hr _ hN2 h3.dp] at h
    exact h
set_option maxRecDepth 100000 in
set_option maxHeartbeats 8000000 in
/-- CodeTurned. -/
theorem law_turned (n : Nat) (l : List PT) (z : Int) (x : UInt8) (S : Nat → Prop) (v : Value) (B : Nat) (w : World) (hE : EnvM B w) (hL : Lies n S w v l) (hS : ∀ x, S x → x < w.heap.size) (hb : bulkF n l ≤ 900000000) :
    Calls Tryz.prog 5 #[v, .int .i64 z, .int .u8 x.toNat] w fun e w' => e = .returned (.bool true) ∧ Keep [] w w' := by
  obtain ⟨A, m, cap, rfl⟩ := hL.form
  have HE := Lib.hid hE
  have HL := Lib.hid hL
  have HWK := Lib.hid (wakes20_any w hE)
  have HDP : Hid (∀ W, Keep [] w W → Calls Tryz.prog 10 #[.slice A m cap, .int .i64 20] W fun e w' => e = .returned (.bool (deepF 20 l)) ∧ Keep [] W w') := fun W hW => deep_any 20 (by omega) n l S _ W (hL.keep hW (by simp))
  have HCO : Hid (∀ W, Keep [] w W → Calls Tryz.prog 11 #[.slice A m cap] W (CompO n l W)) := fun W hW => ccompile_any n l S _ B W (hE.keep hW (by simp)) (hL.keep hW (by simp)) (fun x hx => Nat.lt_of_lt_of_le (hS x hx) hW.size) hb
  have HBK := Lib.hid hb
  have HSL := Lib.hid hS
  clear hE hL hS hb
  cases hd : deepF 20 l with
  | true =>
    rw [hd] at HDP
    clear hd
    go_enter Tryz.func5, Tryz.ntmps5
    go_wp2_with (first
      | (go_at_call 9; refine HWK.out.mono ?_; rintro e w1 ⟨rfl, hk1⟩; have HK1 := Lib.hid hk1; have HD1 := Lib.hid (HDP.out w1 hk1); clear hk1)
      | (go_at_call 10; refine HD1.out.mono ?_; rintro e w2 ⟨rfl, hk2⟩; have HK2 := Lib.hid hk2; clear hk2))
    go_ret
    exact ⟨rfl, HK1.out.nil HK2.out⟩
  | false =>
    rw [hd] at HDP
    clear hd
    by_cases hf : (formF n l).2 = 0
    · obtain ⟨hcl, hc7⟩ := code_short hf
      have hn := HL.out.dp
      obtain ⟨h10, hc10, hrd⟩ := read_code hn hf
      have hsm := small_code hn hf
      have HNL : Hid (∀ y, y ≠ codeF n l → y.length ≤ 58000 → NotL w (.slice A m cap) y) := fun y hy hyl => lift_not HE.out HL.out HBK.out hf hy hyl
      have HC1 : Hid (∀ W, Keep [] w W → Calls Tryz.prog 11 #[.slice A m cap] W fun e w' => ∃ b o c1, e = .returned (.tuple #[.slice (some ⟨b, o, none⟩) (codeF n l).length c1, .int .i64 0]) ∧ RdU w' (.slice (some ⟨b, o, none⟩) (codeF n l).length c1) (codeF n l) ∧ Keep [] W w') := fun W hW => (HCO.out W hW).mono fun e w' h => by
        obtain ⟨h, hk⟩ := h
        rcases h with h | h | h
        · exact absurd hf h.1
        · omega
        · obtain ⟨-, -, u, rfl, ho⟩ := h
          obtain ⟨A1, c1, rfl⟩ := ho.form
          obtain ⟨b, o, rfl, -⟩ := ho.reads.cells (by omega)
          exact ⟨b, o, c1, rfl, ho.reads, hk⟩
      have HLA : Hid (∀ W u, Keep [] w W → RdU W u (codeF n l) → Calls Tryz.prog 19 #[u] W fun e w' => ∃ UA um uc, e = .returned (.tuple #[.slice UA um uc, .int .i64 0]) ∧ Keep [] W w' ∧
          Calls Tryz.prog 18 #[.slice UA um uc, .slice A m cap] w' fun e w2 => e = .returned (.bool true) ∧ Keep [] w' w2) := fun W u hW hu => (clift_any W B u _ (HE.out.keep hW (by simp)) hu (by omega) hsm).mono fun e w' h => by
        unfold LiftA at h
        rw [hrd] at h
        obtain ⟨h1, u2, h2, h3⟩ := h
        obtain ⟨UA, um, uc, rfl⟩ := h3.form
        refine ⟨UA, um, uc, h2, h1, ?_⟩
        have hN1 : n ≤ max n 10 := Nat.le_max_left _ _
        have hN2 : 10 ≤ max n 10 := Nat.le_max_right _ _
        have hbN : bulkF (max n 10) l = bulkF n l := bulk_dp _ _ l (hn.le hN1) hn
        have hbk := HBK.out
        have h := same_any (max n 10) l l _ S (.slice UA um uc) _ w' (h3.le hN2) ((HL.out.keep (hW.nil h1) (by simp)).le hN1) (by omega) (by omega)
        rw [sameF_self] at h
        exact h
      clear hrd hsm hc10 h10 hn hf HCO
      generalize codeF n l = C at *
      go_enter Tryz.func5, Tryz.ntmps5
      go_upto_region 8 with (first
        | (go_at_call 9; refine HWK.out.mono ?_; rintro e w1 ⟨rfl, hk1⟩; have HK := Lib.hid hk1; have HD1 := Lib.hid (HDP.out w1 hk1); clear hk1)
        | (go_at_call 10; refine HD1.out.mono ?_; rintro e w2 ⟨rfl, hk2⟩; have hk := HK.out.nil hk2; have HC := Lib.hid (HC1.out w2 hk); clear HK HD1 hk2; have HK := Lib.hid hk; clear hk)
        | (go_at_call 11; refine HC.out.mono ?_; rintro e w3 ⟨b, o, c1, rfl, hr3, hk3⟩; have hk := HK.out.nil hk3; clear HK HC hk3; have HK := Lib.hid hk; have HR3 := Lib.hid hr3; clear hk hr3))
      go_wp2
      obtain ⟨b', o', hb', -, hcc, hcm, hbl, hcell⟩ := HR3.out.cells (by omega)
      injection hb' with hb'
      injection hb' with e1 e2
      subst e1 e2
      have HCE := Lib.hid hcell
      obtain ⟨k, hk, hkz⟩ := rem_place z C.length (by omega) (by omega)
      rw [hkz]
      have hki : (k : Int) ≤ (c1 : Int) := by omega
      have hk0 : (0 : Int) ≤ (k : Int) := by omega
      clear hcell hkz
      have HKD : Hid (Keep [] w3 w3.drew) := Keep.drew (Keep.refl [] w3)
      have HQA : Hid (Keep [] w3 (w3.alloc (.cells #[] 5)).drew) := ((Keep.refl [] w3).alloc _).drew
      have HQD : Hid (Keep [] w3 (w3.alloc (.cells #[.int .u8 x.toNat] 5)).drew) := ((Keep.refl [] w3).alloc _).drew
      have HQB : Hid (Keep [] w3 ((w3.alloc (.cells #[] 5)).alloc (.cells #[.int .u8 x.toNat] 5)).drew) := (((Keep.refl [] w3).alloc _).alloc _).drew
      have HQC : Hid (Keep [] w3 ((w3.alloc (.cells #[.int .u8 x.toNat] 5)).alloc (.cells #[] 5)).drew) := (((Keep.refl [] w3).alloc _).alloc _).drew
      have HOB : Hid (OwnU ((w3.alloc (.cells #[] 5)).alloc (.cells #[.int .u8 x.toNat] 5)).drew w3.heap.size (.slice (some ⟨w3.heap.size, 0, none⟩) 0 0) []) := (((OwnU.made w3).alloc _).keep (bs := []) (Keep.drew (Keep.refl [] _)) (by simp))
      have HOC : Hid (OwnU ((w3.alloc (.cells #[.int .u8 x.toNat] 5)).alloc (.cells #[] 5)).drew w3.heap.size (.slice (some ⟨w3.heap.size + 1, 0, none⟩) 0 0) []) := (OwnU.made2 (w3.alloc (.cells #[.int .u8 x.toNat] 5)) w3.heap.size (w3.heap.size + 1) (by simp) (by omega)).keep (bs := []) (Keep.drew (Keep.refl [] _)) (by simp)
      have HXB : Hid (Blk ((w3.alloc (.cells #[] 5)).alloc (.cells #[.int .u8 x.toNat] 5)).drew (w3.heap.size + 1) 5 #[.int .u8 x.toNat]) := (Blk.new' (w3.alloc (.cells #[] 5)) 5 #[.int .u8 x.toNat] (w3.heap.size + 1) (by simp)).keep (Keep.drew (Keep.refl [] _)) (by simp)
      have HXC : Hid (Blk ((w3.alloc (.cells #[.int .u8 x.toNat] 5)).alloc (.cells #[] 5)).drew w3.heap.size 5 #[.int .u8 x.toNat]) := ((Blk.new w3 5 #[.int .u8 x.toNat]).keep ((Keep.refl [] _).alloc _) (by simp)).keep (Keep.drew (Keep.refl [] _)) (by simp)
      go_cut [46, 47] (fun u iz W => ∃ A6 cap6, u = .agg #[.slice (some ⟨b, o, none⟩) k c1, .slice A6 (C.length + 1) cap6] ∧ iz = .int .i64 0 ∧ OwnU W w3.heap.size (.slice A6 (C.length + 1) cap6) (C ++ [x]) ∧ Keep [] w3 W)
      case first =>
        go_region_held3 (fun W => Keep [] w3 W) (first | exact HKD.out | exact hq6 | exact hq5 | exact HQA.out | exact HQD.out | exact HQB.out | exact HQC.out | (refine Keep.alloc ?_ _; assumption) | fail)
          (first
            | (refine step_copy_u (w := w3.drew.alloc (.cells #[] 5)) (B := w3.heap.size) (n := w3.heap.size) (by rfl) _ _ (by rfl) (by rfl) (OwnU.made2 _ _ _ (by simp) (Nat.le_refl _)) C ⟨b, o, none⟩ c1 (by rfl) (keepC HCE.out hbl (by assumption)) (by omega) (by simp) ?_; intro A5 cap5 w5 ho5 hk5; have hq5 : Keep [] w3 w5 := (HKD.out.alloc _).trans hk5 (fun x hx => .inr (by simp at hx; omega)))
            | (refine step_copy_u (w := ((w3.alloc (.cells #[] 5)).alloc (.cells #[.int .u8 x.toNat] 5)).drew) (B := w3.heap.size) (n := w3.heap.size) (by rfl) _ _ (by rfl) (by rfl) HOB.out C ⟨b, o, none⟩ c1 (by rfl) (keepC HCE.out hbl HQB.out) (by omega) (by simp; omega) ?_; intro A5 cap5 w5 ho5 hk5; have hq5 : Keep [] w3 w5 := HQB.out.trans hk5 (fun x hx => .inr (by simp at hx; omega)); have hx5 : w5.cell? ⟨w3.heap.size + 1, 0, none⟩ = some (cellU x) := (HXB.out.keep hk5 (by simp)).cell_eq rfl)
            | (refine step_copy_u (w := ((w3.alloc (.cells #[.int .u8 x.toNat] 5)).alloc (.cells #[] 5)).drew) (B := w3.heap.size) (n := w3.heap.size + 1) (by rfl) _ _ (by rfl) (by rfl) HOC.out C ⟨b, o, none⟩ c1 (by rfl) (keepC HCE.out hbl HQC.out) (by omega) (by simp; omega) ?_; intro A5 cap5 w5 ho5 hk5; have hq5 : Keep [] w3 w5 := HQC.out.trans hk5 (fun x hx => .inr (by simp at hx; omega)); have hx5 : w5.cell? ⟨w3.heap.size, 0, none⟩ = some (cellU x) := (HXC.out.keep hk5 (by simp)).cell_eq rfl)
            | (refine step_snoc_u (w := w5.alloc (.cells #[.int .u8 x.toNat] 5)) (B := w3.heap.size) (n := w5.heap.size) (by rfl) _ _ (by rfl) (by rfl) (ho5.alloc _) x (by rfl) (Blk.cell_eq (Blk.new w5 5 #[.int .u8 x.toNat]) rfl) (by omega) (by have := hq5.size; simp; omega) ?_; intro A6 cap6 w6 ho6 hk6; have hq6 : Keep [] w3 w6 := (hq5.alloc _).trans hk6 (fun x hx => .inr (by have := (ho5.lt x hx).1; omega)))
            | (refine step_snoc_u (w := w5) (B := w3.heap.size) (n := w3.heap.size + 1) (by rfl) _ _ (by rfl) (by rfl) ho5 x (by rfl) hx5 (by omega) hq5.size ?_; intro A6 cap6 w6 ho6 hk6; have hq6 : Keep [] w3 w6 := hq5.trans hk6 (fun x hx => .inr (by have := (ho5.lt x hx).1; omega)))
            | (refine step_snoc_u (w := w5) (B := w3.heap.size) (n := w3.heap.size) (by rfl) _ _ (by rfl) (by rfl) ho5 x (by rfl) hx5 (by omega) hq5.size ?_; intro A6 cap6 w6 ho6 hk6; have hq6 : Keep [] w3 w6 := hq5.trans hk6 (fun x hx => .inr (by have := (ho5.lt x hx).1; omega)))
            | fail)
        all_goals
          go_wp2_with fail
          go_meet
          exact ⟨A6, cap6, rfl, rfl, ho6, hq6⟩
      case rest =>
        obtain ⟨A6, cap6, rfl, rfl, ho6, hq6⟩ := hcut
        have HKW : Hid (Keep [] w wc) := HK.out.nil hq6
        have HU0 : Hid (RdU wc (.slice (some ⟨b, o, none⟩) k c1) (C.take k)) := (HR3.out.pre k (by omega)).keep hq6
        have HU1 : Hid (RdU wc (.slice A6 (C.length + 1) cap6) (C ++ [x])) := ho6.reads
        have HC6 : Hid (∀ j u, (C.map cellU)[j]? = some u → wc.cell? ((⟨b, o, none⟩ : Addr).add j) = some u) := keepC HCE.out hbl hq6
        have hbl6 : b < wc.heap.size := Nat.lt_of_lt_of_le hbl hq6.size
        have HN0 := Lib.hid (HNL.out (C.take k) (fun e => by have := congrArg List.length e; rw [List.length_take] at this; omega) (by rw [List.length_take]; omega))
        have HN1 := Lib.hid (HNL.out (C ++ [x]) (fun e => by have := congrArg List.length e; rw [List.length_append] at this; simp at this) (by rw [List.length_append]; simp; omega))
        have i0 := fun W => idx_a2 W (.slice (some ⟨b, o, none⟩) k c1) (.slice A6 (C.length + 1) cap6)
        have i1 := fun W => idx_b2 W (.slice (some ⟨b, o, none⟩) k c1) (.slice A6 (C.length + 1) cap6)
        clear ho6 hq6 HKD HQA HQB HQC HQD HOB HOC HXB HXC
        go_wp2
        go_loopw [47] (fun iv wr => ∃ i : Nat, i ≤ 2 ∧ iv = .int .i64 i ∧ Keep [] wc wr) (fun iv _ => 2 - (intOf iv).toNat)
        case atStart => exact ⟨0, by omega, rfl, Keep.refl _ _⟩
        case round =>
          obtain ⟨i, hi, rfl, hKr⟩ := hrel
          have HKR := Lib.hid hKr
          have HKWR := Lib.hid (HKW.out.nil hKr)
          clear hKr
          have hi3 : i = 0 ∨ i = 1 ∨ i = 2 := by omega
          rcases hi3 with rfl | rfl | rfl
          · rcases HN0.out with hA | hA
            · have HLF := Lib.hid (hA wr _ HKWR.out (HU0.out.keep HKR.out))
              clear hA
              go_wp2_with (go_at_call 19; refine HLF.out.mono ?_; rintro e w8 ⟨rfl, hk8⟩; have HK8 := Lib.hid hk8; clear hk8)
              go_roundw
              case rel => exact ⟨1, by omega, by go_num, HKR.out.nil HK8.out⟩
              case measure => simp [intOf]
            · have HLF := Lib.hid (hA wr _ HKWR.out (HU0.out.keep HKR.out))
              clear hA
              go_wp2_with (first
                | (go_at_call 19; refine HLF.out.mono ?_; rintro e w8 ⟨UA, um, uc, rfl, hk8, hs8⟩; have HK8 := Lib.hid hk8; have HS8 := Lib.hid hs8; clear hk8 hs8)
                | (go_at_call 18; refine HS8.out.mono ?_; rintro e w9 ⟨rfl, hk9⟩; have HK9 := Lib.hid hk9; clear hk9)
                | fail)
              go_roundw
              case rel => exact ⟨1, by omega, by go_num, (HKR.out.nil HK8.out).nil HK9.out⟩
              case measure => simp [intOf]
          · rcases HN1.out with hA | hA
            · have HLF := Lib.hid (hA wr _ HKWR.out (HU1.out.keep HKR.out))
              clear hA
              go_wp2_with (go_at_call 19; refine HLF.out.mono ?_; rintro e w8 ⟨rfl, hk8⟩; have HK8 := Lib.hid hk8; clear hk8)
              go_roundw
              case rel => exact ⟨2, by omega, by go_num, HKR.out.nil HK8.out⟩
              case measure => simp [intOf]
            · have HLF := Lib.hid (hA wr _ HKWR.out (HU1.out.keep HKR.out))
              clear hA
              go_wp2_with (first
                | (go_at_call 19; refine HLF.out.mono ?_; rintro e w8 ⟨UA, um, uc, rfl, hk8, hs8⟩; have HK8 := Lib.hid hk8; have HS8 := Lib.hid hs8; clear hk8 hs8)
                | (go_at_call 18; refine HS8.out.mono ?_; rintro e w9 ⟨rfl, hk9⟩; have HK9 := Lib.hid hk9; clear hk9)
                | fail)
              go_roundw
              case rel => exact ⟨2, by omega, by go_num, (HKR.out.nil HK8.out).nil HK9.out⟩
              case measure => simp [intOf]
          · have hk2 : (k : Int) < (C.length : Int) := by omega
            obtain ⟨ck, hck⟩ : ∃ ck, C.getD k 0 = ck := ⟨_, rfl⟩
            have HCK := Lib.hid hck
            go_upto_region 18 with (at_builtin; refine wpList_append_us (B := wr.heap.size) (v := .slice (some ⟨wr.heap.size, 0, none⟩) 0 0) (l := []) rfl _ _ rfl rfl (OwnU.made wr) C ⟨b, o, none⟩ c1 rfl (fun j u hj => Lib.cell?_alloc_some _ (keepC HC6.out hbl6 HKR.out j u hj)) (by simp; omega) (by simp) ?_; intro v' w' ho' hk'; rw [List.nil_append] at ho'; obtain ⟨bt, mt, ct, rfl⟩ := own_some ho' (by omega); obtain ⟨A', c', he⟩ := ho'.form; injection he with he1 he2 he3; subst he1 he2 he3; obtain ⟨hcl0, hfr0, -⟩ := ho'.at k hk; rw [hck] at hcl0; unfold cellU at hcl0; have HOT := Lib.hid ho'; have HKT := Lib.hid (((Keep.refl [] wr).alloc _).trans hk' (fun x hx => .inr (by simp [Value.ownBlock] at hx; omega))); clear ho' hk')
            rw [xor_u8]
            have hOT : OwnU (w'.setCell ⟨bt, k, none⟩ (cellU (ck ^^^ x))) wr.heap.size (.slice (some ⟨bt, 0, none⟩) C.length ct) (C.set k (ck ^^^ x)) := HOT.out.set k (ck ^^^ x)
            have hbt : wr.heap.size ≤ bt := (HOT.out.lt bt (by simp [Value.ownBlock])).1
            have hKS : Keep [] wr (w'.setCell ⟨bt, k, none⟩ (cellU (ck ^^^ x))) := HKT.out.setCell (.inr hbt) _
            unfold cellU at hOT hKS
            generalize w'.setCell ⟨bt, k, none⟩ (.int .u8 ((ck ^^^ x).toNat : Int)) = W9 at *
            have HRT : Hid (RdU W9 (.slice (some ⟨bt, 0, none⟩) C.length ct) (C.set k (ck ^^^ x))) := hOT.reads
            have HK9 := Lib.hid (HKWR.out.nil hKS)
            clear hOT hKS hbt hcl0 hfr0 hck
            by_cases hx : x = 0
            · subst hx
              have hT : C.set k (ck ^^^ 0) = C := by rw [← HCK.out]; exact turn_same hk
              rw [hT] at HRT
              have HLF := Lib.hid (HLA.out W9 _ HK9.out HRT.out)
              clear hT
              go_wp2_with (first
                | (go_at_call 19; refine HLF.out.mono ?_; rintro e w8 ⟨UA, um, uc, rfl, hk8, hs8⟩; have HK8 := Lib.hid hk8; have HS8 := Lib.hid hs8; clear hk8 hs8)
                | (go_at_call 18; refine HS8.out.mono ?_; rintro e w9 ⟨rfl, hk9⟩; have HK10 := Lib.hid hk9; clear hk9)
                | fail)
              go_ret
              exact ⟨rfl, (HK9.out.nil HK8.out).nil HK10.out⟩
            · have hT : C.set k (ck ^^^ x) ≠ C := by rw [← HCK.out]; exact turn_other hk hx
              have hx0 : ((x.toNat : Int) == 0) = false := by
                have : x.toNat ≠ 0 := fun h => hx (UInt8.toNat_inj.1 h)
                simp; omega
              have HN2 := Lib.hid (HNL.out (C.set k (ck ^^^ x)) hT (by rw [List.length_set]; omega))
              clear hT hx
              rcases HN2.out with hA | hA
              · have HLF := Lib.hid (hA W9 _ HK9.out HRT.out)
                clear hA
                go_wp2_with (go_at_call 19; refine HLF.out.mono ?_; rintro e w8 ⟨rfl, hk8⟩; have HK8 := Lib.hid hk8; clear hk8)
                go_ret
                exact ⟨rfl, HK9.out.nil HK8.out⟩
              · have HLF := Lib.hid (hA W9 _ HK9.out HRT.out)
                clear hA
                go_wp2_with (first
                  | (go_at_call 19; refine HLF.out.mono ?_; rintro e w8 ⟨UA, um, uc, rfl, hk8, hs8⟩; have HK8 := Lib.hid hk8; have HS8 := Lib.hid hs8; clear hk8 hs8)
                  | (go_at_call 18; refine HS8.out.mono ?_; rintro e w9 ⟨rfl, hk9⟩; have HK10 := Lib.hid hk9; clear hk9)
                  | fail)
                go_ret
                exact ⟨rfl, (HK9.out.nil HK8.out).nil HK10.out⟩
    · obtain ⟨er, her, hc1⟩ : ∃ er : Int, (er == 0) = false ∧ ∀ W, Keep [] w W → Calls Tryz.prog 11 #[.slice A m cap] W fun e w' => e = .returned (.tuple #[.slice none 0 0, .int .i64 er]) ∧ Keep [] W w' := by
        refine ⟨(formF n l).2, by simpa using hf, fun W hW => (HCO.out W hW).mono ?_⟩
        rintro e w' ⟨h, hk⟩
        rcases h with h | h | h
        · exact ⟨h.2, hk⟩
        · exact absurd h.1 hf
        · exact absurd h.1 hf
      have HC1 := Lib.hid hc1
      clear hc1 hf HCO
      go_enter Tryz.func5, Tryz.ntmps5
      go_wp2_with (first
        | (go_at_call 9; refine HWK.out.mono ?_; rintro e w1 ⟨rfl, hk1⟩; have HK := Lib.hid hk1; have HD1 := Lib.hid (HDP.out w1 hk1); clear hk1)
        | (go_at_call 10; refine HD1.out.mono ?_; rintro e w2 ⟨rfl, hk2⟩; have hk := HK.out.nil hk2; have HC := Lib.hid (HC1.out w2 hk); clear HK HD1 hk2; have HK := Lib.hid hk; clear hk)
        | (go_at_call 11; refine HC.out.mono ?_; rintro e w3 ⟨rfl, hk3⟩; have hk := HK.out.nil hk3; clear HK HC hk3; have HK := Lib.hid hk; clear hk))
      go_ret
      exact ⟨rfl, HK.out⟩
end Go.Proofs.YtmfoiceofhcicaaGreatDoor

namespace Go.Proofs.YtmfoiceofhcicaaGreatDoor
open Go.ChangeShapes Go.WideShapes Go.ChangeAt Go.RowKit

theorem own : ownKnob Tryz.prog.godebug = none := by kernel_rfl
theorem laidOut : laidOutB Tryz.prog = true := by kernel_rfl
theorem acc_eq : (Rows.laid_unicode_utf8_acceptRanges : DataW Unit) = Lib.acceptData := by kernel_rfl
theorem first_eq : Rows.laid_unicode_utf8_first = Lib.firstData := Pinned.utf8First_eq
theorem pow_eq : (Rows.laid_internal_strconv_uint64pow10 : DataW Unit) = Lib.tabData .u64 Lib.pow10Tab := by kernel_rfl
theorem sp_eq : (Rows.laid_strings_asciiSpace : DataW Unit) = Lib.tabData .u8 Lib.asciiSpaceTab := by kernel_rfl
/-- What the six rows list. -/
abbrev laidL : List (String × DataW Unit) := Rows.codeThereUptoRow.laid
theorem tab_of_reads {P : Program} {W : World} {name : String} {k : IntKind} {zs : List Int} {g : Nat} {t e : TypeId} {n : Nat}
    (hg : P.globalNamed name = some g) (hty : (P.globals[g]?).map (·.type) = some t) (ht : P.underlying t = some (.array n e)) (he : P.underlying e = some (.int k)) (hce : P.cellsOf e = 1) (hct : P.cellsOf t = n)
    (h : Lib.VarReads P W name (Lib.tabData k zs)) : Lib.TabIs P W name k zs := by
  obtain ⟨g', t', cs, fuel, p, hg', ht', hvar, hd⟩ := h
  obtain rfl := Option.some.inj (hg.symm.trans hg')
  obtain rfl := Option.some.inj (hty.symm.trans ht')
  unfold Lib.TabIs
  rw [hvar, ← Lib.cells_of_tab ht he hce hct hd]
theorem ev_of_reads {P : Program} {W : World} {name nm : String} {d : DataW Unit} {g : Nat} {t : TypeId} {ms : Array (String × TypeId)}
    (hg : P.globalNamed name = some g) (hty : (P.globals[g]?).map (·.type) = some t) (ht : P.underlying t = some (.interface ms))
    (h : Lib.VarReads P W name (.iface nm d)) : ∃ ev, W.cell? ⟨g, 0, none⟩ = some ev ∧ (ev = .nilIface ∨ ∃ te pe, ev = .iface te pe) := by
  obtain ⟨g', t', cs, fuel, p, hg', ht', hvar, hd⟩ := h
  obtain rfl := Option.some.inj (hg.symm.trans hg')
  obtain rfl := Option.some.inj (hty.symm.trans ht')
  have hc := World.var?_cell hg hvar 0
  obtain ⟨l⟩ := cs
  cases fuel with
  | zero => simp [DataW.trod] at hd
  | succ fuel =>
    match l, hd, hc with
    | [], hd, _ => simp [DataW.trod, ht] at hd
    | [v], hd, hc =>
      cases v <;> first | (simp [DataW.trod, ht] at hd; done) | exact ⟨_, by simpa using hc, .inr ⟨_, _, rfl⟩⟩ | exact ⟨_, by simpa using hc, .inl rfl⟩
    | a :: b :: r, hd, _ => simp [DataW.trod, ht] at hd
/-- What the row's list gives: the tables and variables of the library; the ground of the calls. -/
theorem env_m {W : World} (h : laidMetH Tryz.prog laidL W) (hsh : W.ShapedOpen Tryz.prog) : EnvM W.heap.size W := by
  have hL : laidMet Tryz.prog laidL W := h
  have r0 := Lib.laidMet.reads hL (n := "internal/strconv.uint64pow10") (.tail _ (.tail _ (.head _)))
  have r1 := Lib.laidMet.reads hL (n := "unicode/utf8.acceptRanges") (.tail _ (.tail _ (.tail _ (.head _))))
  have r2 := Lib.laidMet.reads hL (n := "strconv.ErrRange") (.tail _ (.tail _ (.tail _ (.tail _ (.head _)))))
  have r3 := Lib.laidMet.reads hL (n := "strconv.ErrSyntax") (.tail _ (.tail _ (.tail _ (.tail _ (.tail _ (.head _))))))
  have r4 := Lib.laidMet.reads hL (n := "strings.asciiSpace") (.tail _ (.tail _ (.tail _ (.tail _ (.tail _ (.tail _ (.tail _ (.head _))))))))
  have r5 := Lib.laidMet.reads hL (n := "unicode/utf8.first") (.tail _ (.tail _ (.tail _ (.tail _ (.tail _ (.tail _ (.tail _ (.tail _ (.head _)))))))))
  rw [pow_eq] at r0
  rw [acc_eq] at r1
  rw [sp_eq] at r4
  rw [first_eq] at r5
  have hU : Lib.Utf8Tabs 6 7 W := utf8Tabs_of_reads (ρ := Tryz.lays260_ren) { Tryz.lays260 with } ⟨by kernel_rfl, by kernel_rfl, by kernel_rfl, by kernel_rfl, by kernel_rfl, by kernel_rfl, by kernel_rfl⟩ r5 r1
  have hV : Vars W := ⟨tab_of_reads named_pow (by kernel_rfl) Tryz.underlying249 Tryz.underlying188 (by kernel_rfl) (by kernel_rfl) r0,
    tab_of_reads named_sp (by kernel_rfl) Tryz.underlying191 Tryz.underlying5 (by kernel_rfl) (by kernel_rfl) r4,
    ev_of_reads (by kernel_rfl) (by kernel_rfl) Tryz.underlying146 r3,
    ev_of_reads (by kernel_rfl) (by kernel_rfl) Tryz.underlying146 r2,
    Tryz.laysM138.s1_3 W hsh⟩
  refine ⟨⟨?_, Nat.le_refl _, hU⟩, hV⟩
  obtain ⟨cs, hh, _⟩ := hsh.1 10 #[.pointer none] 217 (of_decide_eq_true (by kernel_rfl)) (by kernel_rfl)
  exact (Array.getElem?_eq_some_iff.1 hh).1

/-- A world for the witness: the settled one, the variables holding what their initialisers lay. -/
noncomputable def laidWorld (os : Os) : World :=
  let N := (World.settled Tryz.prog os).heap.size
  let w0 := World.holding Tryz.prog os ⟨#[.cells (Lib.whiteT.map fun (z : Nat) => Value.int .u16 (z : Int)).toArray 235, .cells #[.slice (some ⟨N, 0, none⟩) 7 7, .slice none 0 0, .int .i64 2] 233,
    .cells #[.string ⟨#[118, 97, 108, 117, 101, 32, 111, 117, 116, 32, 111, 102, 32, 114, 97, 110, 103, 101]⟩] 265, .cells #[.string ⟨#[105, 110, 118, 97, 108, 105, 100, 32, 115, 121, 110, 116, 97, 120]⟩] 265], #[], []⟩
  let put (h : Array Obj) (g : Nat) (cs : Array Value) : Array Obj := h.modify g fun
    | .cells _ t frozen => .cells cs t frozen
    | o => o
  let h1 := put w0.heap 6 (Lib.firstTab.map fun z => Value.int .u8 z).toArray
  let h2 := put h1 7 ((List.range 16).flatMap fun i => [Value.int .u8 (Lib.accLo i), Value.int .u8 (Lib.accHi i)]).toArray
  let h3 := put h2 0 (Lib.asciiSpaceTab.map fun z => Value.int .u8 z).toArray
  let h4 := put h3 3 (Lib.pow10Tab.map fun z => Value.int .u64 z).toArray
  let h5 := put h4 8 (Lib.deBruijn32tab.map fun (z : Nat) => Value.int .u8 (z : Int)).toArray
  let h6 := put h5 9 (Lib.deBruijn64tab.map fun (z : Nat) => Value.int .u8 (z : Int)).toArray
  let h7 := put h6 1 #[.pointer (some ⟨N + 1, 0, none⟩)]
  let h8 := put h7 5 #[.iface 263 (.pointer (some ⟨N + 2, 0, none⟩))]
  let h9 := put h8 4 #[.iface 263 (.pointer (some ⟨N + 3, 0, none⟩))]
  { w0 with heap := h9 }
theorem laid_met (os : Os) (args : Array Value) : laidMet Tryz.prog laidL ((laidWorld os).forCall (fun _ _ => 0) ⟨#[], args, []⟩).memory :=
  (LaidIn.of_run (List.range 64) 8 (by kernel_rfl) (by kernel_rfl) (by kernel_rfl) (by kernel_rfl)).met
end Go.Proofs.YtmfoiceofhcicaaGreatDoor

namespace Go.Proofs.YtmfoiceofhcicaaGreatDoor
open Go.ChangeShapes Go.WideShapes Go.ChangeAt Go.RowKit

/-- The blocks that there are. -/
abbrev InW (w : World) : Nat → Prop := fun x => x < w.heap.size
theorem cellsPart : Tryz.prog.cellsOf 68 = 7 := by kernel_rfl
theorem cellsCase : Tryz.prog.cellsOf 70 = 2 := by kernel_rfl
theorem cellsInt : Tryz.prog.cellsOf 3 = 1 := by kernel_rfl
theorem cellsStr : Tryz.prog.cellsOf 9 = 1 := by kernel_rfl
theorem cellsParts : Tryz.prog.cellsOf 22 = 1 := by kernel_rfl
theorem cellsCases : Tryz.prog.cellsOf 66 = 1 := by kernel_rfl
section
variable {H : Type} {enc : TypeId × Value → H} {w : World} {base : Nat} {spare : Nat → Bool} {held : Bool}
theorem up_lit (k : IntKind) (z : Int) : Rows.uptoBulk (DataW.lit (H := H) (.int k z)) = 1 := by simp [Rows.uptoBulk]
theorem up_str (t : ByteArray) : Rows.uptoBulk (DataW.lit (H := H) (.string t.data.toList)) = t.size + 1 := by
  simp [Rows.uptoBulk]
theorem up_append (a b : List (DataW H)) : Rows.uptoBulkAll (a ++ b) = Rows.uptoBulkAll a + Rows.uptoBulkAll b := by
  induction a with
  | nil => simp [Rows.uptoBulkAll]
  | cons x r ih => simp only [List.cons_append, Rows.uptoBulkAll, ih]; omega
theorem up_at : ∀ (l : List (DataW H)) (i : Nat) (d : DataW H), l[i]? = some d → Rows.uptoBulk d ≤ Rows.uptoBulkAll l
  | x :: r, 0, d, h => by simp at h; subst h; simp only [Rows.uptoBulkAll]; omega
  | x :: r, i + 1, d, h => by have := up_at r i d (by simpa using h); simp only [Rows.uptoBulkAll]; omega
theorem flatten_at {size : Nat} : ∀ (rows : List (List Value)) (_ : ∀ (i : Nat) r, rows[i]? = some r → r.length = size) (_ : 0 < size) (j : Nat) (u : Value), rows.flatten[j]? = some u →
    ∃ r, rows[j / size]? = some r ∧ r[j % size]? = some u
  | [], _, _, j, u, h => by simp at h
  | r :: rows, hr, hs, j, u, h => by
    have h0 := hr 0 r rfl
    rw [List.flatten_cons] at h
    by_cases hj : j < size
    · rw [List.getElem?_append_left (by omega)] at h
      exact ⟨r, by rw [Nat.div_eq_of_lt hj]; rfl, by rw [Nat.mod_eq_of_lt hj]; exact h⟩
    · rw [List.getElem?_append_right (by omega), h0] at h
      obtain ⟨r', h1, h2⟩ := flatten_at rows (fun i r h => hr (i + 1) r (by simpa using h)) hs (j - size) u h
      have e : j = (j - size) + size := by omega
      refine ⟨r', ?_, ?_⟩
      · rw [e, Nat.add_div_right _ hs]; simpa using h1
      · rw [e, Nat.add_mod_right]; exact h2
theorem open_rows {t e : TypeId} {fuel size : Nat} {c : Value} {x : DataW H × List MemPlace} (ht : Tryz.prog.underlying t = some (.slice e)) (he : Tryz.prog.cellsOf e = size) (hs : 0 < size)
    (h : DataW.trod enc Tryz.prog w base spare held fuel t [c] = some x) :
    ∃ (rows : List (List Value)) (ds : List (DataW H)) (m : Nat), ds.length = rows.length ∧ RdC (InW w) w c rows.length rows.flatten ∧ Rows.uptoBulkAll ds + 1 ≤ Rows.uptoBulk x.1 ∧
      ∀ (i : Nat) r d, rows[i]? = some r → ds[i]? = some d → r.length = size ∧ ∃ pl, DataW.trod enc Tryz.prog w base spare held m e r = some (d, pl) := by
  rcases Deep.open_slice ht h with ⟨hc, rfl⟩ | ⟨a, len, cap, m, n', D, Pl, hc, hb, hl, hm, hmm, rfl, hx⟩
  · simp at hc
    subst hc
    exact ⟨[], [], 0, rfl, RdC.nil _ w, by simp [Rows.uptoBulkAll, Rows.uptoBulk], fun i r d h => by simp at h⟩
  · simp at hc
    subst hc
    have hlm : len ≤ m := by rw [hmm]; split <;> omega
    rw [he] at hx
    have hx2 : ∀ i, i < len → ∃ r : List Value, r.length = size ∧ (∀ j, j < size → w.cell? (a.add (i * size + j)) = r[j]?) ∧ DataW.trod enc Tryz.prog w base spare held n' e r = some (D i, Pl i) := fun i hi => by
      obtain ⟨cs', h1, h2⟩ := hx i (by omega)
      obtain ⟨_, h4, h3⟩ := World.cells?_some h1
      exact ⟨cs', h4, fun j hj => by rw [← add_of_add]; exact h3 j hj, h2⟩
    have hI : Inhabited (List Value) := ⟨[]⟩
    obtain ⟨f, hf⟩ := Deep.choose_lt hx2
    have hrow : ∀ (i : Nat) r, ((List.range len).map f)[i]? = some r → i < len ∧ r = f i := fun i r h => by
      have hi : i < len := by have := (List.getElem?_eq_some_iff.1 h).1; simpa using this
      rw [List.getElem?_map, List.getElem?_range hi] at h
      exact ⟨hi, by simpa using h.symm⟩
    refine ⟨(List.range len).map f, (List.range len).map D, n', by simp, ⟨some a, cap, by simp, by simpa using hl, hm, fun hne => ?_⟩, ?_, fun i r d h1 h2 => ?_⟩
    · have hlen : 0 < len := by simpa using hne
      have h00 := (hf 0 hlen).2.1 0 hs
      obtain ⟨r0, hr0⟩ : ∃ u, (f 0)[0]? = some u := ⟨_, List.getElem?_eq_getElem (by rw [(hf 0 hlen).1]; exact hs)⟩
      have hsp : a.spot = none ∧ a.block < w.heap.size := by
        rw [show a.add (0 * size + 0) = a by simp [Addr.add], hr0] at h00
        have h01 := h00
        unfold World.cell? at h01
        split at h01
        · rename_i heq
          refine ⟨?_, (Array.getElem?_eq_some_iff.1 heq).1⟩
          cases hs : a.spot with
          | none => rfl
          | some _ => rw [hs] at h01; simp at h01
        · cases h01
      obtain ⟨b, o, sp⟩ := a
      obtain ⟨hs1, hs2⟩ := hsp
      simp only at hs1 hs2
      subst hs1
      refine ⟨b, o, rfl, hs2, hs2, fun j u hu => ?_⟩
      obtain ⟨r, h1, h2⟩ := flatten_at ((List.range len).map f) (size := size) (fun i r h => by obtain ⟨hi, rfl⟩ := hrow i r h; exact (hf i hi).1) hs j u hu
      obtain ⟨hi, rfl⟩ := hrow _ _ h1
      have := (hf (j / size) hi).2.1 (j % size) (Nat.mod_lt _ hs)
      rw [h2, show j / size * size + j % size = j by rw [Nat.mul_comm]; exact Nat.div_add_mod ..] at this
      rw [← this]
      unfold Addr.add
      split <;> simp_all
    · simp only [Rows.uptoBulk]; omega
    · obtain ⟨hi, rfl⟩ := hrow i r h1
      rw [List.getElem?_map, List.getElem?_range hi] at h2
      obtain rfl : D i = d := by simpa using h2
      exact ⟨(hf i hi).1, _, (hf i hi).2.2⟩
set_option maxRecDepth 100000 in
theorem open_part {n : Nat} {cs : List Value} {d : DataW H} {pl : List MemPlace} (h : DataW.trod enc Tryz.prog w base spare held n 68 cs = some (d, pl)) :
    ∃ (k : Int) (tx nm ty st : ByteArray) (off : Int) (cv : Value) (y : DataW H × List MemPlace) (m : Nat), cs = [.int .i64 k, .string tx, .string nm, .string ty, .string st, .int .i64 off, cv] ∧
      DataW.trod enc Tryz.prog w base spare held m 66 [cv] = some y ∧ 1 + tx.size + nm.size + ty.size + st.size + Rows.uptoBulk y.1 ≤ Rows.uptoBulk d := by
  obtain ⟨xs, m, rfl, hx, hl, hxl, hall⟩ := DataW.trod_struct Tryz.underlying68 h
  simp only [Prod.mk.injEq] at hx
  obtain ⟨rfl, _⟩ := hx
  rw [cellsPart] at hl
  match cs, hl with
  | [c0, c1, c2, c3, c4, c5, c6], _ =>
    have h0 : DataW.trod enc Tryz.prog w base spare held m 3 (([c0, c1, c2, c3, c4, c5, c6].drop 0).take (Tryz.prog.cellsOf 3)) = xs[0]? := hall 0 _ rfl
    have h1 : DataW.trod enc Tryz.prog w base spare held m 9 (([c0, c1, c2, c3, c4, c5, c6].drop 1).take (Tryz.prog.cellsOf 9)) = xs[1]? := hall 1 _ rfl
    have h2 : DataW.trod enc Tryz.prog w base spare held m 9 (([c0, c1, c2, c3, c4, c5, c6].drop 2).take (Tryz.prog.cellsOf 9)) = xs[2]? := hall 2 _ rfl
    have h3 : DataW.trod enc Tryz.prog w base spare held m 9 (([c0, c1, c2, c3, c4, c5, c6].drop 3).take (Tryz.prog.cellsOf 9)) = xs[3]? := hall 3 _ rfl
    have h4 : DataW.trod enc Tryz.prog w base spare held m 9 (([c0, c1, c2, c3, c4, c5, c6].drop 4).take (Tryz.prog.cellsOf 9)) = xs[4]? := hall 4 _ rfl
    have h5 : DataW.trod enc Tryz.prog w base spare held m 3 (([c0, c1, c2, c3, c4, c5, c6].drop 5).take (Tryz.prog.cellsOf 3)) = xs[5]? := hall 5 _ rfl
    have h6 : DataW.trod enc Tryz.prog w base spare held m 66 (([c0, c1, c2, c3, c4, c5, c6].drop 6).take (Tryz.prog.cellsOf 66)) = xs[6]? := hall 6 _ rfl
    rw [cellsInt] at h0 h5
    rw [cellsStr] at h1 h2 h3 h4
    rw [cellsCases] at h6
    match xs, hxl with
    | [y0, y1, y2, y3, y4, y5, y6], _ =>
      obtain ⟨k, e0, rfl, _⟩ := DataW.trod_int Tryz.underlying3 h0
      obtain ⟨t1, e1, rfl, _⟩ := DataW.trod_string Tryz.underlying9 h1
      obtain ⟨t2, e2, rfl, _⟩ := DataW.trod_string Tryz.underlying9 h2
      obtain ⟨t3, e3, rfl, _⟩ := DataW.trod_string Tryz.underlying9 h3
      obtain ⟨t4, e4, rfl, _⟩ := DataW.trod_string Tryz.underlying9 h4
      obtain ⟨z, e5, rfl, _⟩ := DataW.trod_int Tryz.underlying3 h5
      simp at e0 e1 e2 e3 e4 e5
      subst e0 e1 e2 e3 e4 e5
      refine ⟨k, t1, t2, t3, t4, z, c6, y6, m, rfl, by simpa using h6, ?_⟩
      simp only [List.map_cons, List.map_nil, Rows.uptoBulk.eq_def (.agg _), Rows.uptoBulkAll, up_str, up_lit]
      omega
set_option maxRecDepth 100000 in
theorem open_case {n : Nat} {cs : List Value} {d : DataW H} {pl : List MemPlace} (h : DataW.trod enc Tryz.prog w base spare held n 70 cs = some (d, pl)) :
    ∃ (key : ByteArray) (pv : Value) (y : DataW H × List MemPlace) (m : Nat), cs = [.string key, pv] ∧
      DataW.trod enc Tryz.prog w base spare held m 22 [pv] = some y ∧ 1 + key.size + Rows.uptoBulk y.1 ≤ Rows.uptoBulk d := by
  obtain ⟨xs, m, rfl, hx, hl, hxl, hall⟩ := DataW.trod_struct Tryz.underlying70 h
  simp only [Prod.mk.injEq] at hx
  obtain ⟨rfl, _⟩ := hx
  rw [cellsCase] at hl
  match cs, hl with
  | [c0, c1], _ =>
    have h0 : DataW.trod enc Tryz.prog w base spare held m 9 (([c0, c1].drop 0).take (Tryz.prog.cellsOf 9)) = xs[0]? := hall 0 _ rfl
    have h1 : DataW.trod enc Tryz.prog w base spare held m 22 (([c0, c1].drop 1).take (Tryz.prog.cellsOf 22)) = xs[1]? := hall 1 _ rfl
    rw [cellsStr] at h0
    rw [cellsParts] at h1
    match xs, hxl with
    | [y0, y1], _ =>
      obtain ⟨t0, e0, rfl, _⟩ := DataW.trod_string Tryz.underlying9 h0
      simp at e0
      subst e0
      refine ⟨t0, c1, y1, m, rfl, by simpa using h1, ?_⟩
      simp only [List.map_cons, List.map_nil, Rows.uptoBulk.eq_def (.agg _), Rows.uptoBulkAll, up_str]
      omega
theorem build_parts {N : Nat} {S : Nat → Prop} : ∀ (rows : List (List Value)) (ds : List (DataW H)), ds.length = rows.length →
    (∀ (i : Nat) r d, rows[i]? = some r → ds[i]? = some d → ∃ (p : PT) (cv : Value), r = p.cells cv ∧ LiesC N S w cv p.cs ∧ ∀ m, 1 + p.tx.size + p.nm.size + p.ty.size + p.st.size + bulkC (bulkF m) p.cs ≤ Rows.uptoBulk d) →
    ∃ (l : List PT) (vs : List Value), l.length = rows.length ∧ vs.length = l.length ∧ rows.flatten = partC l vs ∧ (∀ (i : Nat) (p : PT) (cv : Value), l[i]? = some p → vs[i]? = some cv → LiesC N S w cv p.cs) ∧ ∀ m, bulkL (bulkF m) l ≤ Rows.uptoBulkAll ds
  | [], [], _, _ => ⟨[], [], rfl, rfl, rfl, fun i p cv h => by simp at h, fun m => Nat.zero_le _⟩
  | r :: rows, d :: ds, hl, hq => by
    obtain ⟨p, cv, rfl, h1, h2⟩ := hq 0 r d rfl rfl
    obtain ⟨l, vs, g1, g2, g3, g4, g5⟩ := build_parts rows ds (by simpa using hl) fun i r d h h' => hq (i + 1) r d (by simpa using h) (by simpa using h')
    refine ⟨p :: l, cv :: vs, by simp [g1], by simp [g2], by rw [List.flatten_cons, g3]; rfl, fun i q u hi hu => ?_, fun m => ?_⟩
    · cases i with
      | zero => simp at hi hu; subst hi; subst hu; exact h1
      | succ i => exact g4 i q u (by simpa using hi) (by simpa using hu)
    · have := h2 m; have := g5 m
      simp only [bulkL, Rows.uptoBulkAll]; omega
theorem build_cases {N : Nat} {S : Nat → Prop} : ∀ (rows : List (List Value)) (ds : List (DataW H)), ds.length = rows.length →
    (∀ (i : Nat) r d, rows[i]? = some r → ds[i]? = some d → ∃ (c : CT) (pv : Value), r = [.string c.1, pv] ∧ Lies N S w pv c.2 ∧ ∀ m, 1 + c.1.size + bulkF m c.2 ≤ Rows.uptoBulk d) →
    ∃ (l : List CT) (us : List Value), l.length = rows.length ∧ us.length = l.length ∧ rows.flatten = caseC l us ∧ (∀ (i : Nat) (c : CT) (pv : Value), l[i]? = some c → us[i]? = some pv → Lies N S w pv c.2) ∧ ∀ m, bulkC (bulkF m) l ≤ Rows.uptoBulkAll ds
  | [], [], _, _ => ⟨[], [], rfl, rfl, rfl, fun i p cv h => by simp at h, fun m => Nat.zero_le _⟩
  | r :: rows, d :: ds, hl, hq => by
    obtain ⟨c, pv, rfl, h1, h2⟩ := hq 0 r d rfl rfl
    obtain ⟨l, us, g1, g2, g3, g4, g5⟩ := build_cases rows ds (by simpa using hl) fun i r d h h' => hq (i + 1) r d (by simpa using h) (by simpa using h')
    refine ⟨c :: l, pv :: us, by simp [g1], by simp [g2], by rw [List.flatten_cons, g3]; rfl, fun i q u hi hu => ?_, fun m => ?_⟩
    · cases i with
      | zero => simp at hi hu; subst hi; subst hu; exact h1
      | succ i => exact g4 i q u (by simpa using hi) (by simpa using hu)
    · have := h2 m; have := g5 m
      simp only [bulkC, Rows.uptoBulkAll]; omega
/-- Parts, opened: how they lie, and how much there is in them. -/
theorem open_parts : ∀ (N fuel : Nat) (c : Value) (x : DataW H × List MemPlace), DataW.trod enc Tryz.prog w base spare held fuel 22 [c] = some x → Rows.uptoBulk x.1 ≤ N →
    ∃ l, Lies (N + 1) (InW w) w c l ∧ ∀ m, bulkF m l ≤ Rows.uptoBulk x.1
  | N, fuel, c, x, h, hN => by
    obtain ⟨rows, ds, m, hlen, hr, hb, hall⟩ := open_rows Tryz.underlying22 cellsPart (by omega) h
    cases N with
    | zero => omega
    | succ N =>
      obtain ⟨l, vs, g1, g2, g3, g4, g5⟩ := build_parts (w := w) (N := N + 1) (S := InW w) rows ds hlen fun i r d h1 h2 => by
        obtain ⟨_, pl, h3⟩ := hall i r d h1 h2
        obtain ⟨k, tx, nm, ty, st, off, cv, y, m', rfl, h4, h5⟩ := open_part h3
        have hd := up_at ds i d h2
        obtain ⟨rows', ds', m'', hlen', hr', hb', hall'⟩ := open_rows Tryz.underlying66 cellsCase (by omega) h4
        obtain ⟨cs, us, f1, f2, f3, f4, f5⟩ := build_cases (w := w) (N := N + 1) (S := InW w) rows' ds' hlen' fun i' r' d' h1' h2' => by
          obtain ⟨_, pl', h3'⟩ := hall' i' r' d' h1' h2'
          obtain ⟨key, pv, y', m3, rfl, h4', h5'⟩ := open_case h3'
          have hd' := up_at ds' i' d' h2'
          obtain ⟨l', hl', hl2⟩ := open_parts N m3 pv y' h4' (by omega)
          exact ⟨(key, l'), pv, rfl, hl', fun m => by have := hl2 m; simp only; omega⟩
        refine ⟨⟨k, tx, nm, ty, st, off, cs⟩, cv, rfl, ⟨us, f2, ?_, f4⟩, fun m => by have := f5 m; simp only; omega⟩
        show RdC (InW w) w cv cs.length (caseC cs us)
        rw [f1, ← f3]
        exact hr'
      refine ⟨l, ⟨vs, g2, ?_, g4⟩, fun m => ?_⟩
      · rw [g1, ← g3]; exact hr
      · cases m with
        | zero => exact Nat.zero_le _
        | succ m => have := g5 m; simp only [bulkF]; omega
end
theorem cellsU8 : Tryz.prog.cellsOf 5 = 1 := by kernel_rfl
theorem build_bytes : ∀ (rows : List (List Value)), (∀ (i : Nat) r, rows[i]? = some r → ∃ c : UInt8, r = [cellU c]) → ∃ l : List UInt8, l.length = rows.length ∧ rows.flatten = l.map cellU
  | [], _ => ⟨[], rfl, rfl⟩
  | r :: rows, h => by
    obtain ⟨c, rfl⟩ := h 0 r rfl
    obtain ⟨l, h1, h2⟩ := build_bytes rows fun i r hr => h (i + 1) r (by simpa using hr)
    exact ⟨c :: l, by simp [h1], by rw [List.flatten_cons, h2]; rfl⟩
theorem u8_of {n : Int} (h : (Lit.int .u8 n).wf = true) : ∃ c : UInt8, (.int .u8 n : Value) = cellU c := by
  have h2 : 0 ≤ n ∧ n < 256 := by
    simp [Lit.wf, IntKind.min, IntKind.max, IntKind.signed, IntKind.bits] at h
    omega
  refine ⟨UInt8.ofNat n.toNat, ?_⟩
  unfold cellU
  rw [UInt8.toNat_ofNat']
  congr 1
  omega
section
variable {H : Type} {enc : TypeId × Value → H} {w : World} {base : Nat} {spare : Nat → Bool} {held : Bool}
/-- Bytes, opened. -/
theorem open_bytes {fuel : Nat} {c : Value} {x : DataW H × List MemPlace} (h : DataW.trod enc Tryz.prog w base spare held fuel 25 [c] = some x) : ∃ l : List UInt8, RdU w c l := by
  obtain ⟨rows, ds, m, hlen, hr, -, hall⟩ := open_rows Tryz.underlying25 cellsU8 (by omega) h
  obtain ⟨l, h1, h2⟩ := build_bytes rows fun i r hi => by
    obtain ⟨d, hd⟩ : ∃ d, ds[i]? = some d := ⟨_, List.getElem?_eq_getElem (by rw [hlen]; exact (List.getElem?_eq_some_iff.1 hi).1)⟩
    obtain ⟨_, pl, h3⟩ := hall i r d hi hd
    obtain ⟨n, rfl, -, hw⟩ := DataW.trod_int Tryz.underlying5 h3
    obtain ⟨c, hc⟩ := u8_of hw
    exact ⟨c, by rw [hc]⟩
  refine ⟨l, ?_⟩
  unfold RdU
  rw [h1, ← h2]
  exact hr.mono fun _ _ => trivial
end
end Go.Proofs.YtmfoiceofhcicaaGreatDoor

namespace Go.Proofs.YtmfoiceofhcicaaGreatDoor.cturned
open Go.ChangeShapes Go.WideShapes Go.ChangeAt Go.RowKit

set_option maxRecDepth 100000 in
theorem contract (H : Type) (enc : TypeId × Value → H) (W : World) (base : Nat) (args : Array Value) (ds gs : List (DataW H)) (before : List MemPlace)
    (hval : ∀ (j : Nat) t v, Tryz.f5.params[j]? = some t → args[j]? = some v → Value.okWide Tryz.prog W .any base t v)
    (hW : DataW.Whole enc Tryz.prog Tryz.f5.params.toList Rows.codeTurnedSpec.vars false W args.toList ds gs before)
    (hL : laidMetH Tryz.prog Rows.codeTurnedUptoRow.laid W) (hsh : W.ShapedOpen Tryz.prog) (hk : Rows.uptoSmall H (ds ++ gs) = true) :
    Calls Tryz.prog 5 args W fun e W' => ∃ v, e = .returned v ∧ Rows.codeTurnedSpec.post enc Tryz.prog Tryz.f5 false true false false W args v W' := by
  have hW' := hW
  obtain ⟨p, q, hA0, hV, rfl, hfz, hnd⟩ := hW
  have hA : DataW.TrodAll enc Tryz.prog W 0 (fun _ => true) true Tryz.f5.params.toList args.toList ds p := hA0
  have hA1 := hA
  rw [Tryz.params5] at hA hval
  obtain ⟨v0, vs0, d0, ds0, p0, q0, hargs, rfl, rfl, h0, r0⟩ := trodAll_cons hA
  obtain ⟨v1, vs1, d1, ds1, p1, q1, rfl, rfl, rfl, h1, r1⟩ := trodAll_cons r0
  obtain ⟨v2, vs2, d2, ds2, p2, q2, rfl, rfl, rfl, h2, r2⟩ := trodAll_cons r1
  obtain ⟨rfl, rfl, rfl⟩ := trodAll_nil r2
  obtain rfl : args = #[v0, v1, v2] := by cases args; simp_all
  obtain ⟨rfl, rfl⟩ := trodVars_none hV
  have hlt := fun x hx => hW'.lt x hx
  have g0 := h0
  have g1 := h1
  have g2 := h2
  have hbk : Rows.uptoBulk d0 ≤ 1048576 := by
    have h1 : Rows.uptoBulkAll ([d0, d1, d2] ++ []) ≤ 1048576 := by simpa [Rows.uptoSmall] using hk
    have h2 := up_at ([d0, d1, d2] ++ []) 0 d0 rfl
    omega
  obtain ⟨A, m, k, rfl⟩ := okWide_slice Tryz.underlying22 (hval 0 22 v0 rfl rfl)
  obtain ⟨z, rfl, rfl, rfl, -⟩ := open_int Tryz.underlying3 (hval 1 3 v1 rfl rfl) h1
  obtain ⟨y, rfl, rfl, rfl, wy⟩ := open_int Tryz.underlying5 (hval 2 5 v2 rfl rfl) h2
  obtain ⟨fuel, hf⟩ := h0
  have hf2 : DataW.trod enc Tryz.prog W 0 (fun _ => true) true fuel 22 [.slice A m k] = some (d0, p0) := hf
  obtain ⟨l, hl, hb⟩ := open_parts 1048576 fuel (.slice A m k) _ hf2 hbk
  obtain ⟨x, hx⟩ := u8_of wy
  have hlaw := law_turned _ l z x (InW W) (.slice A m k) _ W (env_m hL hsh) hl (fun x hx => hx) (Nat.le_trans (hb _) (Nat.le_trans hbk (by omega)))
  rw [show (.int .u8 x.toNat : Value) = .int .u8 y from hx.symm] at hlaw
  refine hlaw.mono fun e W' ⟨he, hk⟩ => ?_
  subst he
  have hb := hk.toBelow
  have t0 := hb.trod laidOut (by kernel_rfl) (of_decide_eq_true (by kernel_rfl)) g0 (fun x hx => hlt x (by simp [hx]))
  have t1 := hb.trod laidOut (by kernel_rfl) (of_decide_eq_true (by kernel_rfl)) g1 (fun x hx => by cases hx)
  have t2 := hb.trod laidOut (by kernel_rfl) (of_decide_eq_true (by kernel_rfl)) g2 (fun x hx => by cases hx)
  exact ⟨_, rfl, _, _, _, [], _, [], hW', trodAll_cons_mk (shut_bool Tryz.underlying4 _) trodAll_mk0, trodAll_cons_mk t0 (trodAll_cons_mk t1 (trodAll_cons_mk t2 trodAll_mk0)), rfl, hb.frame _, fun h => by cases h⟩

theorem reads (os : Os) {H : Type} (enc : TypeId × Value → H) : ∃ places, DataW.whole enc Tryz.prog ((laidWorld os).forCall (fun _ _ => 0) ⟨#[], #[.slice none 0 0, .int .i64 0, .int .u8 0], []⟩).memory Tryz.f5.params.toList Rows.codeTurnedSpec.vars false #[.slice none 0 0, .int .i64 0, .int .u8 0].toList 8 = some ([.nil, .lit (.int .i64 0), .lit (.int .u8 0)], [], places) :=
  ⟨[], by kernel_rfl⟩

set_option maxRecDepth 100000 in
theorem lifted (os : Os) (started : os.Started) (H : Type) (enc : TypeId × Value → H) (F : Stop.Interp) :
    ReturnsInHanded {} Tryz.checked os 5 .any ((Rows.OpenSpec.upto Rows.codeTurnedSpec).preRow enc Tryz.prog Tryz.f5 Rows.codeTurnedUptoRow.domain false Rows.codeTurnedUptoRow.laid) (((Rows.OpenSpec.upto Rows.codeTurnedSpec).at F).post enc Tryz.prog Tryz.f5 false true false false) := by
  obtain ⟨places, hx⟩ := reads os enc
  refine returnsInHanded_of_row (C := Tryz.checked) (s := Rows.OpenSpec.upto Rows.codeTurnedSpec) own started (by kernel_rfl) Tryz.func5
    (witness_row_atRef (enc := enc) (C := Tryz.checked) false (laidWorld os) #[.slice none 0 0, .int .i64 0, .int .u8 0] rfl (by kernel_rfl) (by kernel_rfl) (by kernel_rfl)
      (OpenSpec.preRow_of_cond 8 hx (by kernel_rfl) (fun k hk => by cases hk; kernel_rfl) (by kernel_rfl) (laid_met os _))) ?_
  intro W base args ds gs before hval hW _ hcond _ hL hsh _
  exact contract H enc W base args ds gs before hval hW hL hsh (hcond _ rfl)

theorem said : Rows.CodeTurnedUptoSaid :=
  OpenClaim.holds_of_cond 5 Tryz.f5 rfl rfl rfl rfl rfl rfl rfl ⟨rfl, rfl, rfl, rfl, rfl⟩ rfl rfl rfl rfl rfl (by kernel_rfl) Tryz.func5 (by kernel_rfl)
    (of_decide_eq_true (by kernel_rfl)) (by unfold Func.isWrapper; first | (rw [if_pos (by decide +kernel)]; kernel_rfl) | (rw [if_neg (by decide +kernel)]; exact ⟨rfl, rfl⟩))
    (fun os started H enc _ F => by rw [OpenClaim.pre_eq_preRow]; exact lifted os started H enc F)
theorem plain (f : FuncId) (fn : Func) (hf : Tryz.pinned.checked.prog.funcNamed "vernacular/vernacularlaw20.CodeTurned" = some f) (hfn : Tryz.pinned.checked.prog.funcs[f]? = some fn) :
    true = Tryz.pinned.checked.prog.looks [] ∧ ∀ (j : Nat) t, fn.params[j]? = some t → Tryz.pinned.checked.prog.wantsStandIn t = false := by
  obtain rfl : f = 5 := Option.some.inj ((show Tryz.prog.funcNamed "vernacular/vernacularlaw20.CodeTurned" = some 5 by kernel_rfl).symm.trans hf) |>.symm
  obtain rfl : fn = Tryz.f5 := (Option.some.inj (Tryz.func5.symm.trans hfn)).symm
  refine ⟨by kernel_rfl, fun j t ht => ?_⟩
  rw [Tryz.params5] at ht
  have hm := Array.mem_of_getElem? ht
  have ht2 : t = 22 ∨ t = 3 ∨ t = 5 := by simpa using hm
  rcases ht2 with rfl | rfl | rfl
  · exact (show Tryz.prog.wantsStandIn 22 = false by kernel_rfl)
  · exact (show Tryz.prog.wantsStandIn 3 = false by kernel_rfl)
  · exact (show Tryz.prog.wantsStandIn 5 = false by kernel_rfl)
theorem card : Rows.CodeTurnedUptoCardSaid :=
  Claim7.holds_tied_plain_at .later [] _ _ _ _ said (fun _ h => by cases h) (by kernel_rfl) (fun _ h => by cases h) codeTurnedUpto_row_tie rfl ⟨rfl, rfl⟩ (by kernel_rfl) rfl plain (by kernel_rfl)
end Go.Proofs.YtmfoiceofhcicaaGreatDoor.cturned
