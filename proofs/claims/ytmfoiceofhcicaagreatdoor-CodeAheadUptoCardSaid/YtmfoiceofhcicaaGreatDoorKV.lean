/- Plain: code read back, told at a place and a fault. No walk. -/
import Derived.Test.YtmfoiceofhcicaaGreatDoorKU
namespace Go.Proofs.YtmfoiceofhcicaaGreatDoor

theorem tkK_le {b : List UInt8} {k f n : Nat} (h : k ≤ b.length) : tkK b k f n ≤ b.length := by
  unfold tkK
  split <;> omega
theorem tkK_ge (b : List UInt8) (k f n : Nat) : k ≤ tkK b k f n := by
  unfold tkK
  split <;> omega
theorem tkF_le {b : List UInt8} {k f n : Nat} (h : f ≤ 1000) : tkF b k f n ≤ 1000 := by
  unfold tkF
  split <;> omega
theorem tkB_len (b : List UInt8) (k f n : Nat) : (tkB b k f n).length ≤ n := by
  unfold tkB
  split
  · rw [List.length_take]; omega
  · simp
theorem num16_lt (b : List UInt8) (k f : Nat) : numU (tkB b k f 2) < 65536 := by
  have h := numU_lt (tkB b k f 2)
  exact Nat.lt_of_lt_of_le h (Nat.pow_le_pow_right (n := 256) (by omega) (tkB_len b k f 2))
theorem num32_lt (b : List UInt8) (k f : Nat) : numU (tkB b k f 4) < 4294967296 := by
  have h := numU_lt (tkB b k f 4)
  exact Nat.lt_of_lt_of_le h (Nat.pow_le_pow_right (n := 256) (by omega) (tkB_len b k f 4))
/-- The text whose number stands at a place; may that be? -/
def txt (b : List UInt8) (P : List ByteArray) (k f : Nat) : ByteArray := (P[numU (tkB b k f 2)]?).getD ⟨#[]⟩
def txg (b : List UInt8) (P : List ByteArray) (may : Bool) (k f : Nat) : Bool := (P[numU (tkB b k f 2)]?).isSome || (may && numU (tkB b k f 2) == 65535)
section
variable {b : List UInt8} {P : List ByteArray} {may : Bool} {k f z a : Nat}
theorem txR_rd (hk : k ≤ b.length) : txR b P may (rdOf k f) = (txt b P k f, txg b P may k f, rdOf (tkK b k f 2) (tkF b k f 2)) := by
  unfold txR txt txg
  rw [num_rd hk]
  cases P[numU (tkB b k f 2)]? <;> simp
theorem rdOf_e (k f : Nat) : (rdOf k f).e = (f != 0) := rfl
theorem poolR_step (hk : k ≤ b.length) (n : Nat) (acc : List ByteArray) : poolR b (n + 1) acc (rdOf k f) = if f ≠ 0 then (acc, rdOf k f) else
    poolR b n (acc ++ [⟨(tkB b (tkK b k f 2) (tkF b k f 2) (numU (tkB b k f 2))).toArray⟩]) (rdOf (tkK b (tkK b k f 2) (tkF b k f 2) (numU (tkB b k f 2))) (tkF b (tkK b k f 2) (tkF b k f 2) (numU (tkB b k f 2)))) := by
  show (if (rdOf k f).e = true then (acc, rdOf k f) else poolR b n (acc ++ [⟨(takeR b (numR b 2 (rdOf k f)).1 (numR b 2 (rdOf k f)).2).1.toArray⟩]) (takeR b (numR b 2 (rdOf k f)).1 (numR b 2 (rdOf k f)).2).2) = _
  rw [num_rd hk, rdOf_e]
  by_cases h : f = 0
  · subst h
    simp only [take_rd (tkK_le hk)]
    simp
  · simp [h]
theorem keyR_step (hk : k ≤ b.length) (n : Nat) (ks : List ByteArray) (ts : List Nat) (g : Bool) : keyR b P (n + 1) ks ts g (rdOf k f) = if f ≠ 0 then (ks, ts, g, rdOf k f) else
    keyR b P n (ks ++ [txt b P k f]) (ts ++ [numU (tkB b (tkK b k f 2) (tkF b k f 2) 4)]) (g && txg b P false k f) (rdOf (tkK b (tkK b k f 2) (tkF b k f 2) 4) (tkF b (tkK b k f 2) (tkF b k f 2) 4)) := by
  show (if (rdOf k f).e = true then (ks, ts, g, rdOf k f) else keyR b P n (ks ++ [(txR b P false (rdOf k f)).1]) (ts ++ [(numR b 4 (txR b P false (rdOf k f)).2.2).1]) (g && (txR b P false (rdOf k f)).2.1) (numR b 4 (txR b P false (rdOf k f)).2.2).2) = _
  rw [txR_rd hk, rdOf_e]
  by_cases h : f = 0
  · subst h
    simp only [num_rd (tkK_le hk)]
    simp
  · simp [h]
theorem opR_0 : opR b P z a 0 (rdOf k f) = (⟨a, k - z, 0, ⟨#[]⟩, ⟨#[]⟩, ⟨#[]⟩, ⟨#[]⟩, 0, [], []⟩, true, rdOf k f) := rfl
theorem opR_1 (hk : k ≤ b.length) : opR b P z a 1 (rdOf k f) = (⟨a, tkK b k f 2 - z, 1, txt b P k f, ⟨#[]⟩, ⟨#[]⟩, ⟨#[]⟩, 0, [], []⟩, txg b P false k f, rdOf (tkK b k f 2) (tkF b k f 2)) := by
  unfold opR
  rw [if_neg (by decide), if_pos rfl, txR_rd hk]
  rfl
theorem opR_2 (hk : k ≤ b.length) : opR b P z a 2 (rdOf k f) = (⟨a, tkK b (tkK b k f 2) (tkF b k f 2) 4 - z, 2, ⟨#[]⟩, txt b P k f, ⟨#[]⟩, ⟨#[]⟩, numU (tkB b (tkK b k f 2) (tkF b k f 2) 4), [], []⟩, txg b P false k f, rdOf (tkK b (tkK b k f 2) (tkF b k f 2) 4) (tkF b (tkK b k f 2) (tkF b k f 2) 4)) := by
  have h := num_rd (l := b) (k := tkK b k f 2) (f := tkF b k f 2) (n := 4) (tkK_le hk)
  unfold opR
  rw [if_neg (by decide), if_neg (by decide), if_pos rfl, txR_rd hk]
  simp only [h]
  rfl
theorem opR_3 (hk : k ≤ b.length) : opR b P z a 3 (rdOf k f) =
    (⟨a, tkK b (tkK b (tkK b k f 2) (tkF b k f 2) 2) (tkF b (tkK b k f 2) (tkF b k f 2) 2) 2 - z, 3, ⟨#[]⟩, txt b P k f, txt b P (tkK b k f 2) (tkF b k f 2), txt b P (tkK b (tkK b k f 2) (tkF b k f 2) 2) (tkF b (tkK b k f 2) (tkF b k f 2) 2), 0, [], []⟩,
      txg b P false k f && txg b P true (tkK b k f 2) (tkF b k f 2) && txg b P true (tkK b (tkK b k f 2) (tkF b k f 2) 2) (tkF b (tkK b k f 2) (tkF b k f 2) 2),
      rdOf (tkK b (tkK b (tkK b k f 2) (tkF b k f 2) 2) (tkF b (tkK b k f 2) (tkF b k f 2) 2) 2) (tkF b (tkK b (tkK b k f 2) (tkF b k f 2) 2) (tkF b (tkK b k f 2) (tkF b k f 2) 2) 2)) := by
  have h1 := txR_rd (P := P) (may := true) (f := tkF b k f 2) (tkK_le (f := f) (n := 2) hk)
  have h2 := txR_rd (P := P) (may := true) (f := tkF b (tkK b k f 2) (tkF b k f 2) 2) (tkK_le (f := tkF b k f 2) (n := 2) (tkK_le (f := f) (n := 2) hk))
  unfold opR
  rw [if_neg (by decide), if_neg (by decide), if_neg (by decide), if_pos rfl, txR_rd hk]
  simp only [h1, h2]
  rfl
theorem opR_456 (hk : k ≤ b.length) {o : Nat} (ho : o = 4 ∨ o = 5 ∨ o = 6) {k1 f1 k2 f2 k3 f3 : Nat} (e1 : tkK b k f 2 = k1) (e1' : tkF b k f 2 = f1) (e2 : tkK b k1 f1 4 = k2) (e2' : tkF b k1 f1 4 = f2) (e3 : tkK b k2 f2 2 = k3) (e3' : tkF b k2 f2 2 = f3)
    {ks : List ByteArray} {ts : List Nat} {g : Bool} {k4 f4 : Nat} (hy : keyR b P (numU (tkB b k2 f2 2)) [] [] (txg b P false k f) (rdOf k3 f3) = (ks, ts, g, rdOf k4 f4)) :
    opR b P z a o (rdOf k f) = (⟨a, k4 - z, o, ⟨#[]⟩, txt b P k f, ⟨#[]⟩, ⟨#[]⟩, numU (tkB b k1 f1 4), ks, ts⟩, g, rdOf k4 f4) := by
  have hk1 : k1 ≤ b.length := by rw [← e1]; exact tkK_le hk
  have hk2 : k2 ≤ b.length := by rw [← e2]; exact tkK_le hk1
  have h1 := num_rd (l := b) (k := k1) (f := f1) (n := 4) hk1
  have h2 := num_rd (l := b) (k := k2) (f := f2) (n := 2) hk2
  rw [e2, e2'] at h1
  rw [e3, e3'] at h2
  unfold opR
  rw [if_neg (by omega), if_neg (by omega), if_neg (by omega), if_neg (by omega), if_pos ho, txR_rd hk, e1, e1']
  simp only [h1, h2, hy]
  rfl
theorem opR_7 (hk : k ≤ b.length) : opR b P z a 7 (rdOf k f) = (⟨a, tkK b k f 4 - z, 7, ⟨#[]⟩, ⟨#[]⟩, ⟨#[]⟩, ⟨#[]⟩, 0, [], [numU (tkB b k f 4)]⟩, true, rdOf (tkK b k f 4) (tkF b k f 4)) := by
  unfold opR
  rw [if_neg (by decide), if_neg (by decide), if_neg (by decide), if_neg (by decide), if_neg (by decide), if_pos rfl]
  simp only [num_rd hk]
  rfl
theorem opR_8 {o : Nat} (ho : 7 < o) : opR b P z a o (rdOf k f) = (⟨a, k - z, o, ⟨#[]⟩, ⟨#[]⟩, ⟨#[]⟩, ⟨#[]⟩, 0, [], []⟩, false, rdOf k f) := by
  unfold opR
  rw [if_neg (by omega), if_neg (by omega), if_neg (by omega), if_neg (by omega), if_neg (by omega), if_neg (by omega)]
  rfl
/-- One instruction more. -/
theorem opsR_step {F : Nat} {acc : List OT} {p : Nat} {c : UInt8} {o : OT} {g : Bool} {k' f' : Nat} (hc : b[p]? = some c) (ho : opR b P z (p - z) c.toNat (rdOf (p + 1) 0) = (o, g, rdOf k' f')) :
    opsR b P z (F + 1) acc p = if (g && f' == 0) = true then opsR b P z F (acc ++ [o]) k' else none := by
  show (match b[p]? with | none => some acc | some c => if (opR b P z (p - z) c.toNat ⟨p + 1, false⟩).2.1 && !(opR b P z (p - z) c.toNat ⟨p + 1, false⟩).2.2.e then opsR b P z F (acc ++ [(opR b P z (p - z) c.toNat ⟨p + 1, false⟩).1]) (opR b P z (p - z) c.toNat ⟨p + 1, false⟩).2.2.p else none) = _
  rw [hc]
  have h : (⟨p + 1, false⟩ : Rd) = rdOf (p + 1) 0 := rfl
  simp only [h, ho, rdOf_e]
  cases g <;> by_cases hf : f' = 0 <;> simp [hf, rdOf]
theorem opsR_end {F : Nat} {acc : List OT} {p : Nat} (hp : b.length ≤ p) : opsR b P z (F + 1) acc p = some acc := by
  unfold opsR
  rw [List.getElem?_eq_none hp]
/-- The list of a code, told by its steps. -/
theorem listR_eq {k1 f1 k2 f2 k3 f3 : Nat} (e1 : tkK b 0 0 2 = k1) (e1' : tkF b 0 0 2 = f1) (hP : poolR b (numU (tkB b 0 0 2)) [] (rdOf k1 f1) = (P, rdOf k2 f2)) (hk2 : k2 ≤ b.length) (e3 : tkK b k2 f2 4 = k3) (e3' : tkF b k2 f2 4 = f3) :
    listR b = if f3 ≠ 0 ∨ numU (tkB b k2 f2 4) ≠ b.length - k3 then none else
      match opsR b P k3 (b.length + 1 - k3) [] k3 with
      | none => none
      | some o => if o = [] then none else some (P, o) := by
  have h1 := num_rd (l := b) (k := 0) (f := 0) (n := 2) (Nat.zero_le _)
  have h2 := num_rd (l := b) (k := k2) (f := f2) (n := 4) hk2
  rw [e1, e1'] at h1
  rw [e3, e3'] at h2
  unfold listR
  have h : (⟨0, false⟩ : Rd) = rdOf 0 0 := rfl
  simp only [h, h1, hP, h2, rdOf_e]
  simp only [bne_iff_ne, ne_eq]
  rfl
end
end Go.Proofs.YtmfoiceofhcicaaGreatDoor
