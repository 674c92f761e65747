/- Walks: vernacularref19.Trim, isStyle, isKey, Find, Digits. -/
import Derived.Test.YtjldgcpmdcoejaaGreatDoorQN
import Derived.Test.YtjldgcpmdcoejaaGreatDoorPB
import Derived.Lib.ItoaMem
import Derived.Lib.ItoaLen
namespace Go.Proofs.YtjldgcpmdcoejaaGreatDoor
open Go.RowKit

set_option maxRecDepth 100000 in
set_option maxHeartbeats 1000000 in
/-- vernacularref19.Trim. -/
theorem trim19_any (s : ByteArray) (w : World) (hs : s.size ≤ 1000000000) :
    Calls Tryz.prog 85 #[.string s] w fun e w' => (∃ t : ByteArray, e = .returned (.string t) ∧ t.data.toList = trimR (trimL s.data.toList)) ∧ w = w' := by
  go_enter Tryz.func85, Tryz.ntmps85
  go_wp2
  go_loop [0] (fun i => ∃ t : ByteArray, i = .string t ∧ t.size ≤ s.size ∧ trimL t.data.toList = trimL s.data.toList) (fun i => match i with | .string t => t.size | _ => 0)
  case atStart => exact ⟨s, rfl, Nat.le_refl _, rfl⟩
  case round =>
    obtain ⟨t, rfl, hts, ht⟩ := hrel
    have HT := Lib.hid ht
    clear ht
    by_cases h0 : 0 < t.size
    · have hne : ¬ t = ByteArray.empty := fun h => by subst h; exact absurd h0 (by decide)
      have HS := Lib.hid (trimL_step t h0)
      have h0' : (0 : Int) < t.size := by omega
      have HB := fun W => Lib.hid (blank19_any (t[0].toNat : Int) W)
      cases hbl : blI t[0].toNat
      · have HR : Hid (t.data.toList = trimL s.data.toList) := by unfold Hid; rw [← HT.out, HS.out, hbl]; rfl
        rw [hbl] at HB
        clear hbl
        go_wp2_with (go_at_call 122; refine (HB _).out.mono ?_; rintro e w' ⟨rfl, rfl⟩)
        clear HB HS HT h0' hne
        go_loop [0] (fun i => ∃ u : ByteArray, i = .string u ∧ u.size ≤ s.size ∧ trimR u.data.toList = trimR (trimL s.data.toList)) (fun i => match i with | .string u => u.size | _ => 0)
        case atStart => exact ⟨t, rfl, hts, by rw [HR.out]⟩
        case round =>
          obtain ⟨u, rfl, hus, hu⟩ := hrel
          have HU := Lib.hid hu
          clear hu
          by_cases h0 : 0 < u.size
          · have hne : ¬ u = ByteArray.empty := fun h => by subst h; exact absurd h0 (by decide)
            have HS := Lib.hid (trimR_step u h0)
            have h0' : (0 : Int) < u.size := by omega
            have h1' : ((u.size : Int) - 1).toNat = u.size - 1 := by omega
            have h2' : (0 : Int) ≤ (u.size : Int) - 1 := by omega
            have h3' : (u.size : Int) - 1 < u.size := by omega
            have m1 : IntKind.i64.wrap ((u.size : Int) - 1) = (u.size : Int) - 1 := IntWalk.i64_in _ (by omega)
            have HB := fun W => Lib.hid (blank19_any ((u[u.size - 1]'(by omega)).toNat : Int) W)
            cases hbl : blI (u[u.size - 1]'(by omega)).toNat
            · have HV : Hid (u.data.toList = trimR (trimL s.data.toList)) := by unfold Hid; rw [← HU.out, HS.out, hbl]; rfl
              rw [hbl] at HB
              clear hbl
              go_wp2_with (go_at_call 122; refine (HB _).out.mono ?_; rintro e w' ⟨rfl, rfl⟩)
              go_ret
              exact ⟨⟨u, rfl, HV.out⟩, rfl⟩
            · have HV : Hid (trimR (u.extract 0 (u.size - 1)).data.toList = trimR (trimL s.data.toList)) := by unfold Hid; rw [← HU.out, HS.out, hbl]; rfl
              rw [hbl] at HB
              clear hbl
              go_wp2_with (go_at_call 122; refine (HB _).out.mono ?_; rintro e w' ⟨rfl, rfl⟩)
              go_round
              case rel => exact ⟨_, rfl, by rw [ByteArray.size_extract]; omega, HV.out⟩
              case measure => simp only [ByteArray.size_extract]; omega
          · have hz : u.size = 0 := by omega
            obtain rfl : u = ByteArray.empty := ByteArray.ext (Array.eq_empty_of_size_eq_zero hz)
            go_wp2
            go_ret
            exact ⟨⟨_, rfl, by rw [← HU.out]; rfl⟩, rfl⟩
      · have HR : Hid (trimL (t.extract 1 t.size).data.toList = trimL s.data.toList) := by unfold Hid; rw [← HT.out, HS.out, hbl]; rfl
        rw [hbl] at HB
        clear hbl
        go_wp2_with (go_at_call 122; refine (HB _).out.mono ?_; rintro e w' ⟨rfl, rfl⟩)
        go_round
        case rel => exact ⟨_, rfl, by rw [ByteArray.size_extract]; omega, HR.out⟩
        case measure => simp only [ByteArray.size_extract]; omega
    · have hz : t.size = 0 := by omega
      obtain rfl : t = ByteArray.empty := ByteArray.ext (Array.eq_empty_of_size_eq_zero hz)
      have HR : Hid (trimL s.data.toList = []) := by unfold Hid; rw [← HT.out]; rfl
      go_wp2
      go_loop [0] (fun i => i = .string ByteArray.empty) (fun _ => 0)
      case atStart => rfl
      case round =>
        subst hrel
        go_wp2
        go_ret
        exact ⟨⟨_, rfl, by rw [HR.out]; rfl⟩, rfl⟩
theorem trimL_len (l : List UInt8) : (trimL l).length ≤ l.length := (List.dropWhile_suffix _).length_le
theorem trimL_eq {l : List UInt8} (h : l.length ≤ (trimL l).length) : trimL l = l := (List.dropWhile_suffix _).eq_of_length (Nat.le_antisymm (trimL_len l) h)
theorem trimR_len (l : List UInt8) : (trimR l).length ≤ l.length := by unfold trimR; have := trimL_len l.reverse; simpa using this
theorem trimR_eq {l : List UInt8} (h : l.length ≤ (trimR l).length) : trimR l = l := by
  unfold trimR at *
  rw [List.length_reverse] at h
  rw [trimL_eq (l := l.reverse) (by simpa using h), List.reverse_reverse]
theorem trim_same (l : List UInt8) : trimR (trimL l) = l ↔ trimL (trimR l) = l := by
  constructor
  · intro h
    have h1 := congrArg List.length h
    have h2 := trimR_len (trimL l)
    have h3 := trimL_len l
    have e1 := trimL_eq (l := l) (by omega)
    rw [e1] at h
    rw [h, e1]
  · intro h
    have h1 := congrArg List.length h
    have h2 := trimL_len (trimR l)
    have h3 := trimR_len l
    have e1 := trimR_eq (l := l) (by omega)
    rw [e1] at h
    rw [h, e1]
theorem trim_is19 {s t : ByteArray} (h : t.data.toList = trimR (trimL s.data.toList)) : decide (t = s) = decide (trimB s = s) := by
  rw [Bool.eq_iff_iff, decide_eq_true_eq, decide_eq_true_eq]
  have h1 : t = s ↔ trimR (trimL s.data.toList) = s.data.toList := by
    rw [← h]
    exact ⟨fun h => by rw [h], fun h => bytes_ext h⟩
  have h2 : trimB s = s ↔ trimL (trimR s.data.toList) = s.data.toList := ⟨fun h => congrArg (fun x => x.data.toList) h, fun h => bytes_ext h⟩
  rw [h1, h2, trim_same]
theorem any_take {s : ByteArray} {k : Nat} (h : k < s.size) : (s.data.toList.take (k + 1)).any quoB = ((s.data.toList.take k).any quoB || quoB s[k]) := by
  rw [take_byte s k h, List.any_append]; simp
theorem quoB_is (b : UInt8) : quoB b = (decide (b.toNat = 123) || decide (b.toNat = 125) || decide (b.toNat = 39)) := by
  have e : ∀ n : Nat, n < 256 → (b == n.toUInt8) = decide (b.toNat = n) := fun n hn => by
    rw [Bool.eq_iff_iff]; simp [← UInt8.toNat_inj, Nat.mod_eq_of_lt hn]
  unfold quoB
  rw [show (123 : UInt8) = (123 : Nat).toUInt8 from rfl, show (125 : UInt8) = (125 : Nat).toUInt8 from rfl, show (39 : UInt8) = (39 : Nat).toUInt8 from rfl, e 123 (by omega), e 125 (by omega), e 39 (by omega)]
set_option maxRecDepth 100000 in
set_option maxHeartbeats 2000000 in
/-- vernacularref19.isStyle. -/
theorem isStyle19_any (s : ByteArray) (w : World) (hs : s.size ≤ 1000000000) :
    Calls Tryz.prog 58 #[.string s] w fun e w' => e = .returned (.bool (isStyleB s)) ∧ w = w' := by
  have HK : Hid (isStyleB s = (!noB s && decide (s.size ≤ 64) && decide (trimB s = s) && decide (brk s < 0) && !(s.data.toList.any quoB))) := rfl
  go_enter Tryz.func58, Tryz.ntmps58
  go_wp2
  go_loop [3] (fun i => ∃ k : Nat, k ≤ s.size ∧ i = .int .i64 k ∧ (s.data.toList.take k).any quoB = false) (fun i => s.size - (intOf i).toNat)
  case atStart => exact ⟨0, Nat.zero_le _, rfl, by simp⟩
  case round =>
    obtain ⟨k, hk, rfl, ha⟩ := hrel
    have HA := Lib.hid ha
    clear ha
    by_cases hlt : k < s.size
    · have HT := Lib.hid (any_take hlt)
      have hq := quoB_is s[k]
      cases hb : quoB s[k]
      · rw [hb] at hq
        have h1 : ((s[k].toNat : Int) == 123) = false := by
          have : s[k].toNat ≠ 123 := fun h => by rw [h] at hq; simp at hq
          simp; omega
        have h2 : ((s[k].toNat : Int) == 125) = false := by
          have : s[k].toNat ≠ 125 := fun h => by rw [h] at hq; simp at hq
          simp; omega
        have h3 : ((s[k].toNat : Int) == 39) = false := by
          have : s[k].toNat ≠ 39 := fun h => by rw [h] at hq; simp at hq
          simp; omega
        have HB := Lib.hid hb
        clear hq hb
        go_wp2
        go_round
        case rel => exact ⟨k + 1, by omega, by go_num, by rw [HT.out, HA.out, HB.out]; rfl⟩
        case measure => simp [intOf]; omega
      · have HF : Hid (isStyleB s = false) := by
          unfold Hid
          have : s.data.toList.any quoB = true := by
            rw [← List.take_append_drop (k + 1) s.data.toList, List.any_append, HT.out, hb]; simp
          rw [HK.out, this]; simp
        rw [hb] at hq
        clear HT HK hb HA
        by_cases h1 : s[k].toNat = 123
        · have e1 : ((s[k].toNat : Int) == 123) = true := by simp; omega
          clear hq h1
          go_wp2
          go_ret
          exact ⟨by rw [HF.out]; rfl, rfl⟩
        · have e1 : ((s[k].toNat : Int) == 123) = false := by simp; omega
          by_cases h2 : s[k].toNat = 125
          · have e2 : ((s[k].toNat : Int) == 125) = true := by simp; omega
            clear hq h1 h2
            go_wp2
            go_ret
            exact ⟨by rw [HF.out]; rfl, rfl⟩
          · have e2 : ((s[k].toNat : Int) == 125) = false := by simp; omega
            have e3 : ((s[k].toNat : Int) == 39) = true := by
              have : s[k].toNat = 39 := by simpa [h1, h2] using hq
              simp; omega
            clear hq h1 h2
            go_wp2
            go_ret
            exact ⟨by rw [HF.out]; rfl, rfl⟩
    · have HF : Hid (isStyleB s = (!noB s && decide (s.size ≤ 64) && decide (trimB s = s) && decide (brk s < 0))) := by
        unfold Hid
        have : s.data.toList.any quoB = false := by rw [← HA.out, List.take_of_length_le (by rw [size_len]; omega)]
        rw [HK.out, this]; simp
      have HTR := fun W => Lib.hid (trim19_any s W hs)
      have HRT := fun W => Lib.hid (right17_any s W (by omega))
      clear HK HA
      by_cases h0 : s.size = 0
      · obtain rfl : s = ByteArray.empty := ByteArray.ext (Array.eq_empty_of_size_eq_zero h0)
        go_wp2
        go_ret
        exact ⟨by rw [HF.out]; rfl, rfl⟩
      · have hne : ¬ s = ByteArray.empty := fun h => by subst h; exact h0 rfl
        have hnb : noB s = false := decide_eq_false h0
        have b0 : s.toList.isEmpty = false := not_empty h0
        have b0' : ¬ s.toList = [] := fun h => by rw [h] at b0; cases b0
        rw [hnb] at HF
        by_cases h64 : s.size ≤ 64
        · rw [decide_eq_true h64] at HF
          obtain ⟨q, hq⟩ : ∃ q, decide (trimB s = s) = q := ⟨_, rfl⟩
          rw [hq] at HF
          cases q
          · go_wp2_with (go_at_call 85; refine (HTR _).out.mono ?_; rintro e w' ⟨⟨t, rfl, ht⟩, rfl⟩; have HB : Hid ((t.toList == s.toList) = false) := (bytes_beq t s).trans ((trim_is19 ht).trans hq); have hb := HB.out)
            go_ret
            exact ⟨by rw [HF.out]; rfl, rfl⟩
          · go_wp2_with (first | (go_at_call 85; refine (HTR _).out.mono ?_; rintro e w' ⟨⟨t, rfl, ht⟩, rfl⟩; have HB : Hid ((t.toList == s.toList) = true) := (bytes_beq t s).trans ((trim_is19 ht).trans hq); have hb := HB.out) | (go_at_call 16; refine (HRT _).out.mono ?_; rintro e w' ⟨rfl, rfl⟩))
            go_ret
            exact ⟨by rw [HF.out]; rfl, rfl⟩
        · rw [decide_eq_false h64] at HF
          go_wp2
          go_ret
          exact ⟨by rw [HF.out]; rfl, rfl⟩
set_option maxRecDepth 100000 in
set_option maxHeartbeats 1000000 in
/-- vernacularref19.isKey. -/
theorem isKey19_any (s : ByteArray) (k : Int) (w : World) (hs : s.size ≤ 1000000000) :
    Calls Tryz.prog 60 #[.string s, .int .i64 k] w fun e w' => e = .returned (.bool (isKeyB k s)) ∧ w = w' := by
  by_cases hk : k = 4
  · subst hk
    have HN := fun W => Lib.hid (isName19_any s W hs)
    have HK : Hid (isKeyB 4 s = isNameB s) := by unfold Hid isKeyB; rw [if_pos rfl]
    go_enter Tryz.func60, Tryz.ntmps60
    go_wp2_with (go_at_call 56; refine (HN _).out.mono ?_; rintro e w' ⟨rfl, rfl⟩)
    go_ret
    exact ⟨by rw [HK.out]; rfl, rfl⟩
  · have hk4 : (k == 4) = false := by simpa using hk
    have HP := fun W => Lib.hid (place15_any s W)
    by_cases h0 : 0 < s.size
    · have hl : s.data.toList = s[0] :: s.data.toList.drop 1 := by
        have := List.drop_eq_getElem_cons (l := s.data.toList) (i := 0) (by rw [size_len]; omega)
        exact this
      have hne : ¬ s = ByteArray.empty := fun h => by subst h; exact absurd h0 (by decide)
      have h0' : (0 : Int) < s.size := by omega
      by_cases hb : s[0].toNat = 61
      · have hh : Lib.hasPrefix s.data.toList [61] = true := by
          have : s[0] = 61 := UInt8.toNat_inj.1 hb
          rw [hl, this]; simp [Lib.hasPrefix]
        have HK : Hid (isKeyB k s = (numV (s.extract 1 s.size)).isSome) := by unfold Hid isKeyB; rw [if_neg hk, if_pos hh]
        have HN := fun W => Lib.hid (number15_any (s.extract 1 s.size) W (by rw [ByteArray.size_extract]; omega))
        have e1 : ((s[0].toNat : Int) == 61) = true := by simp; omega
        clear hh hl hb hk
        go_enter Tryz.func60, Tryz.ntmps60
        go_wp2_with (go_at_call 86; refine (HN _).out.mono ?_; rintro e w' ⟨⟨x, rfl⟩, rfl⟩)
        go_ret
        exact ⟨by rw [HK.out]; rfl, rfl⟩
      · have hh : Lib.hasPrefix s.data.toList [61] = false := by
          have : s[0] ≠ 61 := fun h => hb (by rw [h]; rfl)
          rw [hl]
          show (((61 : UInt8) == s[0]) && _) = false
          rw [beq_eq_false_iff_ne.2 (Ne.symm this)]; rfl
        have HK : Hid (isKeyB k s = memW catsW s) := by unfold Hid isKeyB; rw [if_neg hk, if_neg (by simp [hh])]
        have e1 : ((s[0].toNat : Int) == 61) = false := by simp; omega
        clear hh hl hb hk
        go_enter Tryz.func60, Tryz.ntmps60
        go_wp2_with (go_at_call 87; refine (HP _).out.mono ?_; rintro e w' ⟨⟨x, rfl, hx⟩, rfl⟩)
        go_ret
        exact ⟨by rw [HK.out, ← hx]; rfl, rfl⟩
    · have hz : s.size = 0 := by omega
      obtain rfl : s = ByteArray.empty := ByteArray.ext (Array.eq_empty_of_size_eq_zero hz)
      have HK : Hid (isKeyB k ByteArray.empty = memW catsW ByteArray.empty) := by
        unfold Hid isKeyB; rw [if_neg hk, if_neg (by decide)]
      clear hk
      go_enter Tryz.func60, Tryz.ntmps60
      go_wp2_with (go_at_call 87; refine (HP _).out.mono ?_; rintro e w' ⟨⟨x, rfl, hx⟩, rfl⟩)
      go_ret
      exact ⟨by rw [HK.out, ← hx]; rfl, rfl⟩
/-- What the keys of cases read as. -/
def KeyAt (w : World) (A : Option Addr) (cs : List CT) : Prop := ∀ (i : Nat) (c : CT), cs[i]? = some c → ∃ b o, A = some ⟨b, o, none⟩ ∧ b < w.heap.size ∧ w.cell? ⟨b, o + i * 2, none⟩ = some (.string c.1)
/-- Where a word stands among words; -1: nowhere. -/
def findX (ks : List ByteArray) (key : ByteArray) : Int := if memW ks key then ((ks.findIdx fun t => decide (t = key) : Nat) : Int) else -1
theorem findX_sign (ks : List ByteArray) (key : ByteArray) : decide (0 ≤ findX ks key) = memW ks key := by
  unfold findX
  cases memW ks key
  · rfl
  · simp
theorem findX_at {ks : List ByteArray} {key : ByteArray} {m : Nat} (h : ks[m]? = some key) (hn : ∀ t ∈ ks.take m, t ≠ key) : findX ks key = m := by
  have hm := (List.getElem?_eq_some_iff.1 h)
  unfold findX
  rw [if_pos ((memW_iff _ _).2 (List.mem_of_getElem? h))]
  congr 1
  rw [List.findIdx_eq hm.1]
  refine ⟨by simp [hm.2], fun j hj => ?_⟩
  have := hn (ks[j]'(by have := hm.1; omega)) (List.mem_take_iff_getElem.2 ⟨j, by have := hm.1; omega, rfl⟩)
  simpa using this
theorem findX_no {ks : List ByteArray} {key : ByteArray} (hn : ∀ t ∈ ks, t ≠ key) : findX ks key = -1 := by
  have : memW ks key = false := by
    rw [← Bool.not_eq_true, memW_iff]
    exact fun h => hn key h rfl
  unfold findX
  rw [this]; rfl
set_option maxRecDepth 100000 in
set_option maxHeartbeats 1000000 in
/-- vernacularref19.Find, among the first k cases. -/
theorem find19_any (cs : List CT) (A : Option Addr) (cap k : Nat) (key : ByteArray) (w : World) (hA : KeyAt w A cs) (hk : k ≤ cs.length) (hl : cs.length ≤ 1000000000) :
    Calls Tryz.prog 59 #[.slice A k cap, .string key] w fun e w' => e = .returned (.int .i64 (findX ((cs.map Prod.fst).take k) key)) ∧ w = w' := by
  have HA := Lib.hid hA
  clear hA
  obtain ⟨X, hX⟩ : ∃ X, findX ((cs.map Prod.fst).take k) key = X := ⟨_, rfl⟩
  have HX := Lib.hid hX
  rw [hX]
  clear hX
  go_enter Tryz.func59, Tryz.ntmps59
  go_wp2
  go_loop [5] (fun i => ∃ m : Nat, m ≤ k ∧ i = .int .i64 m ∧ ∀ t ∈ (cs.take m).map Prod.fst, t ≠ key) (fun i => k - (intOf i).toNat)
  case atStart => exact ⟨0, Nat.zero_le _, rfl, by simp⟩
  case round =>
    obtain ⟨m, hm, rfl, hf⟩ := hrel
    have HF := Lib.hid hf
    clear hf
    by_cases hlt : m < k
    · obtain ⟨c, hc⟩ : ∃ c, cs[m]? = some c := ⟨_, List.getElem?_eq_getElem (by omega)⟩
      obtain ⟨b, o, rfl, hbl, c0⟩ := HA.out m c hc
      have HC := Lib.hid hc
      have HB := Lib.hid (bytes_beq c.1 key)
      by_cases he : c.1 = key
      · have HM : Hid (X = m) := by
          unfold Hid
          rw [← HX.out]
          refine findX_at ?_ ?_
          · rw [List.getElem?_take, if_pos hlt, List.getElem?_map, hc, ← he]; rfl
          · rw [List.take_take, Nat.min_eq_left hm, ← List.map_take]
            exact HF.out
        have hb : (c.1.toList == key.toList) = true := by rw [HB.out]; exact decide_eq_true he
        clear he hc
        go_wp2
        go_ret
        exact ⟨by rw [HM.out]; rfl, rfl⟩
      · have HN := Lib.hid he
        have hb : (c.1.toList == key.toList) = false := by rw [HB.out]; exact decide_eq_false he
        clear he hc
        go_wp2
        go_round
        case rel => exact ⟨m + 1, by omega, by go_num, fun x hx => by
          rw [List.take_add_one, HC.out, List.map_append, List.mem_append] at hx
          rcases hx with h1 | h1
          · exact HF.out x h1
          · have : x = c.1 := by simpa using h1
            rw [this]; exact HN.out⟩
        case measure => simp [intOf]; omega
    · have HM : Hid (X = -1) := by
        unfold Hid
        rw [← HX.out]
        refine findX_no ?_
        rw [← List.map_take]
        rw [show m = k from by omega] at HF
        exact HF.out
      go_wp2
      go_ret
      exact ⟨by rw [HM.out]; rfl, rfl⟩
theorem encode_dig (d : Nat) (h : d < 10) : Utf8.encode (48 + (d : Int)) = ⟨#[UInt8.ofNat (48 + d)]⟩ := by
  match d, h with
  | 0, _ | 1, _ | 2, _ | 3, _ | 4, _ | 5, _ | 6, _ | 7, _ | 8, _ | 9, _ => rfl
  | d + 10, h => omega
/-- The digits ahead of the last one. -/
def decHead (m : Nat) : List UInt8 := if m < 10 then [] else Lib.decDigits (m / 10)
theorem decHead_last (m : Nat) : Lib.decDigits m = decHead m ++ [UInt8.ofNat (48 + m % 10)] := by
  unfold decHead
  split
  · rename_i h; rw [dec_small h, Nat.mod_eq_of_lt h]; rfl
  · rename_i h; exact dec_great h
set_option maxRecDepth 100000 in
set_option maxHeartbeats 1000000 in
/-- vernacularref19.Digits. -/
theorem digits19_any (n : Nat) (w : World) (hn : n ≤ 999999999) :
    Calls Tryz.prog 29 #[.int .i64 (n : Int)] w fun e w' => e = .returned (.string ⟨(Lib.decDigits n).toArray⟩) ∧ w = w' := by
  have hlen : (Lib.decDigits n).length ≤ 21 := by have := Lib.itoa_length_le n (by omega) (by omega); rwa [Lib.itoa_nonneg] at this
  have HE : ∀ (m : Nat), Hid (Utf8.encode (48 + (m : Int) % 10) = ⟨#[UInt8.ofNat (48 + m % 10)]⟩) := fun m => by
    unfold Hid
    rw [show (48 + (m : Int) % 10) = 48 + ((m % 10 : Nat) : Int) from by omega, encode_dig _ (by omega)]
  have d2 : (n : Int).tmod 10 = (n : Int) % 10 := Int.tmod_eq_emod_of_nonneg (by omega)
  have m1 : IntKind.i64.wrap (48 + (n : Int) % 10) = 48 + (n : Int) % 10 := IntWalk.i64_in _ (by omega)
  have m2 : IntKind.i32.wrap (48 + (n : Int) % 10) = 48 + (n : Int) % 10 := by rw [IntKind.wrap_i32]; omega
  go_enter Tryz.func29, Tryz.ntmps29
  go_wp2
  clear m1 m2 d2
  go_loop [0, 3] (fun i x => ∃ (m : Nat) (t : ByteArray), m ≤ n ∧ i = .int .i64 m ∧ x = .string t ∧ decHead m ++ t.data.toList = Lib.decDigits n) (fun i _ => (intOf i).toNat)
  case atStart => exact ⟨n, _, Nat.le_refl _, rfl, rfl, by rw [(HE n).out]; exact (decHead_last n).symm⟩
  case round =>
    obtain ⟨m, t, hm, rfl, rfl, ht⟩ := hrel
    have hts : t.size ≤ 21 := by
      have := congrArg List.length ht
      rw [List.length_append, size_len] at this
      omega
    have HT := Lib.hid ht
    clear ht
    by_cases hlt : 10 ≤ m
    · have hge : (10 : Int) ≤ m := by omega
      have hdiv : (m : Int).tdiv 10 = ((m / 10 : Nat) : Int) := by rw [Int.tdiv_eq_ediv_of_nonneg (by omega)]; rfl
      have hv : m / 10 ≤ 99999999 := by omega
      have HD : Hid (decHead m = decHead (m / 10) ++ [UInt8.ofNat (48 + (m / 10) % 10)]) := by
        unfold Hid
        rw [← decHead_last]
        exact if_neg (by omega)
      have hml : m / 10 < m := by omega
      have hmn : m / 10 ≤ n := by omega
      have m3 : IntKind.i64.wrap ((m / 10 : Nat) : Int) = ((m / 10 : Nat) : Int) := IntWalk.i64_in _ (by omega)
      generalize m / 10 = v at *
      have d2 : (v : Int).tmod 10 = (v : Int) % 10 := Int.tmod_eq_emod_of_nonneg (by omega)
      have m1 : IntKind.i64.wrap (48 + (v : Int) % 10) = 48 + (v : Int) % 10 := IntWalk.i64_in _ (by omega)
      have m2 : IntKind.i32.wrap (48 + (v : Int) % 10) = 48 + (v : Int) % 10 := by rw [IntKind.wrap_i32]; omega
      have HV := HE v
      have hz : (Utf8.encode (48 + (v : Int) % 10)).size = 1 := by rw [HV.out]; rfl
      have HA := add_run19 (Utf8.encode (48 + (v : Int) % 10)) t (by omega)
      clear HE
      go_wp2
      go_round
      case rel => exact ⟨v, _, hmn, rfl, rfl, by
        rw [← HT.out, HD.out, ByteArray.data_append, Array.toList_append, HV.out, List.append_assoc]⟩
      case measure => simp [intOf]; omega
    · have HR : Hid (t.data.toList = Lib.decDigits n) := by
        unfold Hid
        rw [← HT.out]
        unfold decHead
        rw [if_pos (by omega)]; rfl
      go_wp2
      go_ret
      exact ⟨by rw [← HR.out]; rfl, rfl⟩
end Go.Proofs.YtjldgcpmdcoejaaGreatDoor
