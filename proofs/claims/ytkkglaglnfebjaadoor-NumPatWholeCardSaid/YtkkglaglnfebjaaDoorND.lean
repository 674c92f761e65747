/- Plain: numpat's digits. No program. -/
import Derived.Test.YtkkglaglnfebjaaDoorNP
namespace Go.Proofs.YtkkglaglnfebjaaDoor
open Go.RowKit

def isB (s : ByteArray) (q : Nat) (b : Nat) : Prop := q < s.size ∧ (s.get! q).toNat = b
instance (s : ByteArray) (q b : Nat) : Decidable (isB s q b) := by unfold isB; infer_instance
/-- The digits ahead of the point: place, how many, a comma just now, how many stand ahead of each comma, noughts. -/
def dLoop (s : ByteArray) : Nat → Nat → Nat → Bool → List Int → Nat → Nat × Nat × Bool × List Int × Nat
  | 0, q, n, fr, cm, mi => (q, n, fr, cm, mi)
  | f + 1, q, n, fr, cm, mi =>
    if isB s q 44 ∧ fr = false ∧ cm.length < 2 then dLoop s f (q + 1) n true (cm ++ [(n : Int)]) mi
    else if isB s q 48 then dLoop s f (q + 1) (n + 1) false cm (mi + 1)
    else if mi = 0 ∧ isB s q 35 then dLoop s f (q + 1) (n + 1) false cm mi
    else (q, n, fr, cm, mi)
/-- How many bytes b stand from q on. -/
def runB (s : ByteArray) (b : Nat) : Nat → Nat → Nat
  | 0, _ => 0
  | f + 1, q => if isB s q b then runB s b f (q + 1) + 1 else 0
theorem runB_le (s : ByteArray) (b : Nat) : ∀ f q, q ≤ s.size → q + runB s b f q ≤ s.size
  | 0, q, h => by simp [runB, h]
  | f + 1, q, h => by
    simp only [runB]
    split
    · rename_i hb
      have := runB_le s b f (q + 1) hb.1
      omega
    · omega
def groupsOf (n : Nat) : List Int → Int × Int
  | [] => (0, 0)
  | [a] => ((n : Int) - a, (n : Int) - a)
  | a :: b :: _ => ((n : Int) - b, b - a)
structure DRes where
  mi : Nat
  mf : Nat
  xf : Nat
  g1 : Int
  g2 : Int
  q : Nat
/-- The digits of a half: what they say and the place behind them; or what is wrong, and where. -/
def digitsS (s : ByteArray) (p : Nat) : Except (Int × Nat) DRes :=
  match dLoop s (s.size + 1 - p) p 0 true [] 0 with
  | (q, n, fr, cm, mi) =>
    if fr = true ∨ mi = 0 then .error (260, q)
    else if isB s q 46 then
      (if runB s 48 (s.size - q) (q + 1) + runB s 35 (s.size - q) (q + 1 + runB s 48 (s.size - q) (q + 1)) = 0 then .error (260, q + 1)
       else if 64 < n ∨ 64 < runB s 48 (s.size - q) (q + 1) + runB s 35 (s.size - q) (q + 1 + runB s 48 (s.size - q) (q + 1)) then .error (3, p)
       else .ok ⟨mi, runB s 48 (s.size - q) (q + 1), runB s 48 (s.size - q) (q + 1) + runB s 35 (s.size - q) (q + 1 + runB s 48 (s.size - q) (q + 1)), (groupsOf n cm).1, (groupsOf n cm).2,
         q + 1 + runB s 48 (s.size - q) (q + 1) + runB s 35 (s.size - q) (q + 1 + runB s 48 (s.size - q) (q + 1))⟩)
    else if 64 < n then .error (3, p)
    else .ok ⟨mi, 0, 0, (groupsOf n cm).1, (groupsOf n cm).2, q⟩
/-- What is known in the loop. -/
structure DIn (s : ByteArray) (p q n : Nat) (cm : List Int) (mi : Nat) : Prop where
  pq : p ≤ q
  qs : q ≤ s.size
  nq : n ≤ q
  mn : mi ≤ n
  cl : cm.length ≤ 2
  cb : ∀ a ∈ cm, 0 ≤ a ∧ a ≤ n
theorem DIn.comma {s : ByteArray} {p q n : Nat} {cm : List Int} {mi : Nat} (h : DIn s p q n cm mi) (hq : q < s.size) (hc : cm.length < 2) : DIn s p (q + 1) n (cm ++ [(n : Int)]) mi :=
  ⟨by have := h.pq; omega, by omega, by have := h.nq; omega, h.mn, by simp; omega, fun a ha => by
    rcases List.mem_append.1 ha with ha | ha
    · exact h.cb a ha
    · simp at ha; omega⟩
theorem DIn.digit {s : ByteArray} {p q n : Nat} {cm : List Int} {mi mi' : Nat} (h : DIn s p q n cm mi) (hq : q < s.size) (hm : mi' ≤ mi + 1) : DIn s p (q + 1) (n + 1) cm mi' :=
  ⟨by have := h.pq; omega, by omega, by have := h.nq; omega, by have := h.mn; omega, h.cl, fun a ha => by have := h.cb a ha; omega⟩
section
variable {s : ByteArray} {f q n mi : Nat} {fr : Bool} {cm : List Int}
theorem dLoop_comma (h : isB s q 44) (h1 : fr = false) (h2 : cm.length < 2) : dLoop s (f + 1) q n fr cm mi = dLoop s f (q + 1) n true (cm ++ [(n : Int)]) mi := by
  simp only [dLoop]; rw [if_pos ⟨h, h1, h2⟩]
theorem dLoop_zero (h : isB s q 48) : dLoop s (f + 1) q n fr cm mi = dLoop s f (q + 1) (n + 1) false cm (mi + 1) := by
  simp only [dLoop]; rw [if_neg (fun hc => by have := hc.1.2; have := h.2; omega), if_pos h]
theorem dLoop_hash (h : isB s q 35) (hm : mi = 0) : dLoop s (f + 1) q n fr cm mi = dLoop s f (q + 1) (n + 1) false cm mi := by
  simp only [dLoop]; rw [if_neg (fun hc => by have := hc.1.2; have := h.2; omega), if_neg (fun hc => by have := hc.2; have := h.2; omega), if_pos ⟨hm, h⟩]
theorem dLoop_stop (h1 : ¬ (isB s q 44 ∧ fr = false ∧ cm.length < 2)) (h2 : ¬ isB s q 48) (h3 : ¬ (mi = 0 ∧ isB s q 35)) : dLoop s (f + 1) q n fr cm mi = (q, n, fr, cm, mi) := by
  simp only [dLoop]; rw [if_neg h1, if_neg h2, if_neg h3]
end

section
variable {s : ByteArray} {p q n mi : Nat} {fr : Bool} {cm : List Int}
theorem digitsS_bad (hL : dLoop s (s.size + 1 - p) p 0 true [] 0 = (q, n, fr, cm, mi)) (h : fr = true ∨ mi = 0) : digitsS s p = .error (260, q) := by
  unfold digitsS; rw [hL]; simp only; rw [if_pos h]
theorem digitsS_none (hL : dLoop s (s.size + 1 - p) p 0 true [] 0 = (q, n, fr, cm, mi)) (h : ¬ (fr = true ∨ mi = 0)) (hp : ¬ isB s q 46) :
    digitsS s p = if 64 < n then .error (3, p) else .ok ⟨mi, 0, 0, (groupsOf n cm).1, (groupsOf n cm).2, q⟩ := by
  unfold digitsS; rw [hL]; simp only; rw [if_neg h, if_neg hp]
theorem digitsS_point (hL : dLoop s (s.size + 1 - p) p 0 true [] 0 = (q, n, fr, cm, mi)) (h : ¬ (fr = true ∨ mi = 0)) (hp : isB s q 46) (z : Nat) (hz : runB s 48 (s.size - q) (q + 1) = z) (k : Nat) (hk : runB s 35 (s.size - q) (q + 1 + z) = k) :
    digitsS s p = if z + k = 0 then .error (260, q + 1) else if 64 < n ∨ 64 < z + k then .error (3, p) else .ok ⟨mi, z, z + k, (groupsOf n cm).1, (groupsOf n cm).2, q + 1 + z + k⟩ := by
  unfold digitsS; rw [hL]; simp only; rw [if_neg h, if_pos hp, hz, hk]
theorem runB_yes {b f : Nat} (h : isB s q b) : runB s b (f + 1) q = runB s b f (q + 1) + 1 := by simp only [runB]; rw [if_pos h]
theorem runB_no {b f : Nat} (h : ¬ isB s q b) : runB s b f q = 0 := by
  cases f with
  | zero => rfl
  | succ f => simp only [runB]; rw [if_neg h]
end

theorem dLoop_le (s : ByteArray) : ∀ f q n fr cm mi, q ≤ s.size → (dLoop s f q n fr cm mi).1 ≤ s.size
  | 0, q, n, fr, cm, mi, h => h
  | f + 1, q, n, fr, cm, mi, h => by
    simp only [dLoop]
    split
    · rename_i hc; exact dLoop_le s f _ _ _ _ _ (by have := hc.1.1; omega)
    · split
      · rename_i hc; exact dLoop_le s f _ _ _ _ _ (by have := hc.1; omega)
      · split
        · rename_i hc; exact dLoop_le s f _ _ _ _ _ (by have := hc.2.1; omega)
        · exact h
theorem digitsS_le {s : ByteArray} {p : Nat} {d : DRes} (hp : p ≤ s.size) (h : digitsS s p = .ok d) : d.q ≤ s.size := by
  have hl := dLoop_le s (s.size + 1 - p) p 0 true [] 0 hp
  unfold digitsS at h
  generalize dLoop s (s.size + 1 - p) p 0 true [] 0 = r at *
  obtain ⟨q, n, fr, cm, mi⟩ := r
  simp only at h hl
  split at h
  · cases h
  · split at h
    · rename_i hb
      split at h
      · cases h
      · split at h
        · cases h
        · simp only [Except.ok.injEq] at h
          subst h
          have h1 := runB_le s 48 (s.size - q) (q + 1) hb.1
          exact runB_le s 35 (s.size - q) _ h1
    · split at h
      · cases h
      · simp only [Except.ok.injEq] at h
        subst h
        exact hl
/-- A half: what stands ahead, the digits, what stands behind, and the place behind it; or what is wrong, and where. -/
structure HRes where
  pre : List Aff
  d : DRes
  suf : List Aff
  q : Nat
def halfS (s : ByteArray) (p : Nat) : Except (Int × Nat) HRes :=
  match aroundF s (s.size + 1 - p) p [] with
  | .error y => .error (260, y)
  | .ok (l1, q1) =>
    match digitsS s q1 with
    | .error e => .error e
    | .ok d =>
      match aroundF s (s.size + 1 - d.q) d.q [] with
      | .error y => .error (260, y)
      | .ok (l2, q2) => .ok ⟨l1, d, l2, q2⟩

structure PRes where
  pre : List Aff
  suf : List Aff
  neg : Bool
  npre : List Aff
  nsuf : List Aff
  d : DRes
/-- Parse behind its second half. -/
def parseS3 (s : ByteArray) (r : HRes) : Except (Int × Nat) HRes → Except (Int × Int) PRes
  | .error e => .error (e.1, e.2)
  | .ok r2 => if r2.q < s.size then .error (260, r2.q) else .ok ⟨r.pre, r.suf, true, r2.pre, r2.suf, r.d⟩
/-- Parse behind its first half. -/
def parseS2 (s : ByteArray) : Except (Int × Nat) HRes → Except (Int × Int) PRes
  | .error e => .error (e.1, e.2)
  | .ok r => if isB s r.q 59 then parseS3 s r (halfS s (r.q + 1)) else if r.q < s.size then .error (260, r.q) else .ok ⟨r.pre, r.suf, false, [], [], r.d⟩
/-- numpat.Parse. -/
def parseS (s : ByteArray) : Except (Int × Int) PRes :=
  if 4096 < s.size then .error (3, 4096)
  else if ¬ brk s < 0 then .error (6, brk s)
  else parseS2 s (halfS s 0)
end Go.Proofs.YtkkglaglnfebjaaDoor
