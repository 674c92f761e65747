/- Walks: here and opt of the writer of code. -/
import Derived.Test.YtmfoiceofhcicaaGreatDoorKG
import Derived.Laws.OwnMore
namespace Go.Proofs.YtmfoiceofhcicaaGreatDoor
open Go.RowKit Go.IntWalk

/-- Bytes put over others, from a place on. -/
def setL : List UInt8 → Nat → List UInt8 → List UInt8
  | l, _, [] => l
  | l, a, y :: ys => setL (l.set a y) (a + 1) ys
theorem setL_len : ∀ (ys l : List UInt8) (a : Nat), (setL l a ys).length = l.length
  | [], _, _ => rfl
  | y :: ys, l, a => by
    unfold setL
    rw [setL_len ys, List.length_set]
theorem setL_snoc (y : UInt8) : ∀ (ys l : List UInt8) (a : Nat), setL l a (ys ++ [y]) = (setL l a ys).set (a + ys.length) y
  | [], _, _ => rfl
  | x :: ys, l, a => by
    rw [List.cons_append]
    unfold setL
    rw [setL_snoc y ys, List.length_cons]
    congr 1
    omega
theorem setL_mid : ∀ (ys Y X Z : List UInt8), ys.length = Y.length → setL (X ++ (Y ++ Z)) X.length ys = X ++ (ys ++ Z)
  | [], [], X, Z, _ => rfl
  | y :: ys, [], X, Z, h => by simp at h
  | [], y :: Y, X, Z, h => by simp at h
  | y :: ys, x :: Y, X, Z, h => by
    unfold setL
    rw [List.set_append_right _ _ (Nat.le_refl _), Nat.sub_self]
    have := setL_mid ys Y (X ++ [y]) Z (by simpa using h)
    simp only [List.length_append, List.length_cons, List.length_nil, List.append_assoc, List.cons_append, List.nil_append] at this
    simpa using this
/-- One byte more put over. -/
theorem OwnU.set {w : World} {B b m cap : Nat} {l : List UInt8} (h : OwnU w B (.slice (some ⟨b, 0, none⟩) m cap) l) (i : Nat) (c : UInt8) : OwnU (w.setCell ⟨b, i, none⟩ (cellU c)) B (.slice (some ⟨b, 0, none⟩) m cap) (l.set i c) := by
  obtain ⟨A, c', he⟩ := h.form
  injection he with _ he _
  subst he
  have := (World.ownsRow.stored h i (cellU c)).1
  unfold OwnU
  rw [List.length_set, List.map_set]
  exact this
theorem OwnU.at {w : World} {B b m cap : Nat} {l : List UInt8} (h : OwnU w B (.slice (some ⟨b, 0, none⟩) m cap) l) (i : Nat) (hi : i < l.length) : w.cell? ⟨b, i, none⟩ = some (cellU (l.getD i 0)) ∧ w.frozen? ⟨b, i, none⟩ = false ∧ m = l.length := by
  obtain ⟨A, c', he⟩ := h.form
  injection he with _ he _
  subst he
  refine ⟨?_, World.ownsRow.frozenAt h i, rfl⟩
  rw [World.ownsRow.cellAt h i (by omega), List.getElem?_map, List.getD_eq_getElem?_getD, List.getElem?_eq_getElem hi]
  rfl
theorem own_some {w : World} {B : Nat} {v : Value} {l : List UInt8} (h : OwnU w B v l) (hne : 0 < l.length) : ∃ b m cap, v = .slice (some ⟨b, 0, none⟩) m cap := by
  rcases h.2 with ⟨_, h0⟩ | ⟨g, cap, cur, rfl, _⟩
  · omega
  · exact ⟨g, _, cap, rfl⟩
theorem w32_at (n k : Nat) (hk : k < 4) : ∃ y, (w32 n)[k]? = some y ∧ (w32 n).take (k + 1) = (w32 n).take k ++ [y] ∧ cellU y = .int .u8 (((n / 256 ^ k) % 256 : Nat) : Int) := by
  have h4 : k = 0 ∨ k = 1 ∨ k = 2 ∨ k = 3 := by omega
  rcases h4 with rfl | rfl | rfl | rfl
  · refine ⟨_, rfl, rfl, ?_⟩
    simp [cellU]
  · refine ⟨_, rfl, rfl, ?_⟩
    simp [cellU]
  · refine ⟨_, rfl, rfl, ?_⟩
    simp [cellU]
  · refine ⟨_, rfl, rfl, ?_⟩
    simp [cellU]
set_option maxRecDepth 100000 in
set_option maxHeartbeats 2000000 in
/-- here. -/
theorem here_any (w : World) (g mb B : Nat) (v : Value) (l : List UInt8) (a : Nat) (h : Wr w g mb B v l) (ha : a + 4 ≤ l.length) (hl : l.length ≤ 10000000) :
    Calls Tryz.prog 94 #[.pointer (some ⟨g, 0, none⟩), .int .i64 a] w fun e w' => e = .returned (.tuple #[]) ∧ Wr w' g mb B v (setL l a (w32 l.length)) ∧ Keep v.ownBlock.toList w w' := by
  obtain ⟨b, m, cap, rfl⟩ := own_some h.own (by omega)
  have HW := Lib.hid h
  have hgl := h.blk.lt
  obtain ⟨c0, c1, f1⟩ := h.cells
  have hbg := h.ne b (by simp [Value.ownBlock])
  obtain ⟨-, -, rfl⟩ := h.own.at a (by omega)
  have hbl := (h.own.lt b (by simp [Value.ownBlock])).2
  clear h
  generalize hn : l.length = n at *
  have HN := Lib.hid hn
  clear hn
  go_enter Tryz.func94, Tryz.ntmps94
  go_wp2
  go_loopw [11] (fun i wr => ∃ k : Nat, k ≤ 4 ∧ i = .int .i64 k ∧ Wr wr g mb B (.slice (some ⟨b, 0, none⟩) n cap) (setL l a ((w32 n).take k)) ∧ Keep [b] w wr) (fun i _ => 4 - (intOf i).toNat)
  case atStart => exact ⟨0, by omega, rfl, HW.out, Keep.refl _ _⟩
  case round =>
    obtain ⟨k, hk, rfl, hW, hK⟩ := hrel
    by_cases hlt : k < 4
    · obtain ⟨y, hy, hyt, hyc⟩ := w32_at n k hlt
      obtain ⟨L, hL⟩ : ∃ L, setL l a ((w32 n).take k) = L := ⟨_, rfl⟩
      have HS : Hid (setL l a ((w32 n).take (k + 1)) = L.set (a + k) y) := by
        unfold Hid
        rw [hyt, setL_snoc, hL, List.length_take, w32_len]
        congr 1
        omega
      have hLl : L.length = n := by rw [← hL, setL_len, HN.out]
      rw [hL] at hW
      clear hL hyt hy
      obtain ⟨d0, d1, z1⟩ := hW.cells
      have HLl := Lib.hid hLl
      have hak : a + k < L.length := by omega
      obtain ⟨e0, y0, -⟩ := hW.own.at (a + k) hak
      have HW1 := Lib.hid hW
      have HK := Lib.hid hK
      have hgr := hW.blk.lt
      have hbr := (hW.own.lt b (by simp [Value.ownBlock])).2
      have HYC := Lib.hid hyc
      generalize cellU (L.getD (a + k) 0) = cv at e0
      clear hW hK hyc c0 c1 f1 hLl hak
      have h4 : k = 0 ∨ k = 1 ∨ k = 2 ∨ k = 3 := by omega
      rcases h4 with rfl | rfl | rfl | rfl
      · simp only [Nat.add_zero] at e0 y0
        have i1 : (a : Int) < n := by omega
        have i0 : (0 : Int) ≤ (a : Int) := by omega
        have i2 : IntKind.i64.wrap ((a : Int)) = (a : Int) := IntWalk.i64_in _ (by omega)
        have i3 : ((a : Int)).toNat = a := by omega
        go_wp2_with fail
        go_region
        have hv : Value.int .u8 ((n : Int) % 256) = cellU y := by
          rw [HYC.out]
          congr 1 <;> (rw [show (n / 256 ^ 0 % 256 : Nat) = n / 1 % 256 from rfl] <;> omega)
        rw [hv]
        have hKs : Keep [b] w (wr.setCell ⟨b, a, none⟩ (cellU y)).drew := (HK.out.setCell (p := ⟨b, a, none⟩) (.inl (by simp)) _).drew
        have hWs : Wr (wr.setCell ⟨b, a, none⟩ (cellU y)).drew g mb B (.slice (some ⟨b, 0, none⟩) n cap) (L.set (a + 0) y) := ⟨Blk.drew (HW1.out.blk.far (p := ⟨b, a, none⟩) (fun h => hbg h.symm) _), HW1.out.own.set (a + 0) y⟩
        clear hv
        go_wp2
        go_roundw
        case rel => exact ⟨0 + 1, by omega, by go_num, by rw [HS.out]; exact hWs, hKs⟩
        case measure => simp [intOf]
      · have i1 : (a : Int) + 1 < n := by omega
        have i0 : (0 : Int) ≤ (a : Int) + 1 := by omega
        have i2 : IntKind.i64.wrap ((a : Int) + 1) = (a : Int) + 1 := IntWalk.i64_in _ (by omega)
        have i3 : ((a : Int) + 1).toNat = a + 1 := by omega
        go_wp2_with fail
        go_region
        have hv : Value.int .u8 ((n : Int) / 256 % 256) = cellU y := by
          rw [HYC.out]
          congr 1 <;> (rw [show (n / 256 ^ 1 % 256 : Nat) = n / 256 % 256 from rfl] <;> omega)
        rw [hv]
        have hKs : Keep [b] w (wr.setCell ⟨b, a + 1, none⟩ (cellU y)).drew := (HK.out.setCell (p := ⟨b, a + 1, none⟩) (.inl (by simp)) _).drew
        have hWs : Wr (wr.setCell ⟨b, a + 1, none⟩ (cellU y)).drew g mb B (.slice (some ⟨b, 0, none⟩) n cap) (L.set (a + 1) y) := ⟨Blk.drew (HW1.out.blk.far (p := ⟨b, a + 1, none⟩) (fun h => hbg h.symm) _), HW1.out.own.set (a + 1) y⟩
        clear hv
        go_wp2
        go_roundw
        case rel => exact ⟨1 + 1, by omega, by go_num, by rw [HS.out]; exact hWs, hKs⟩
        case measure => simp [intOf]
      · have i1 : (a : Int) + 2 < n := by omega
        have i0 : (0 : Int) ≤ (a : Int) + 2 := by omega
        have i2 : IntKind.i64.wrap ((a : Int) + 2) = (a : Int) + 2 := IntWalk.i64_in _ (by omega)
        have i3 : ((a : Int) + 2).toNat = a + 2 := by omega
        go_wp2_with fail
        go_region
        have hv : Value.int .u8 ((n : Int) / 65536) = cellU y := by
          rw [HYC.out]
          congr 1 <;> (rw [show (n / 256 ^ 2 % 256 : Nat) = n / 65536 % 256 from rfl] <;> omega)
        rw [hv]
        have hKs : Keep [b] w (wr.setCell ⟨b, a + 2, none⟩ (cellU y)).drew := (HK.out.setCell (p := ⟨b, a + 2, none⟩) (.inl (by simp)) _).drew
        have hWs : Wr (wr.setCell ⟨b, a + 2, none⟩ (cellU y)).drew g mb B (.slice (some ⟨b, 0, none⟩) n cap) (L.set (a + 2) y) := ⟨Blk.drew (HW1.out.blk.far (p := ⟨b, a + 2, none⟩) (fun h => hbg h.symm) _), HW1.out.own.set (a + 2) y⟩
        clear hv
        go_wp2
        go_roundw
        case rel => exact ⟨2 + 1, by omega, by go_num, by rw [HS.out]; exact hWs, hKs⟩
        case measure => simp [intOf]
      · have i1 : (a : Int) + 3 < n := by omega
        have i0 : (0 : Int) ≤ (a : Int) + 3 := by omega
        have i2 : IntKind.i64.wrap ((a : Int) + 3) = (a : Int) + 3 := IntWalk.i64_in _ (by omega)
        have i3 : ((a : Int) + 3).toNat = a + 3 := by omega
        go_wp2_with fail
        go_region
        have hv : Value.int .u8 ((n : Int) / 16777216) = cellU y := by
          rw [HYC.out]
          congr 1 <;> (rw [show (n / 256 ^ 3 % 256 : Nat) = n / 16777216 % 256 from rfl] <;> omega)
        rw [hv]
        have hKs : Keep [b] w (wr.setCell ⟨b, a + 3, none⟩ (cellU y)).drew := (HK.out.setCell (p := ⟨b, a + 3, none⟩) (.inl (by simp)) _).drew
        have hWs : Wr (wr.setCell ⟨b, a + 3, none⟩ (cellU y)).drew g mb B (.slice (some ⟨b, 0, none⟩) n cap) (L.set (a + 3) y) := ⟨Blk.drew (HW1.out.blk.far (p := ⟨b, a + 3, none⟩) (fun h => hbg h.symm) _), HW1.out.own.set (a + 3) y⟩
        clear hv
        go_wp2
        go_roundw
        case rel => exact ⟨3 + 1, by omega, by go_num, by rw [HS.out]; exact hWs, hKs⟩
        case measure => simp [intOf]
    · obtain rfl : k = 4 := by omega
      go_wp2
      go_end0
      refine ⟨rfl, ?_, hK.mono (fun x hx => .inl (by simpa [Value.ownBlock] using hx))⟩
      exact hW
set_option maxRecDepth 100000 in
set_option maxHeartbeats 400000 in
/-- opt. -/
theorem opt_any (w : World) (g mb B m : Nat) (v : Value) (l : List UInt8) (D : MapD) (P : List ByteArray) (s : ByteArray) (h : Wr w g mb B v l) (hO : OwnMap w mb m D) (hs : s.size ≤ 1000000000) (hv : noB s = false → valD' D s = .lit (.int .i64 (idxT P s))) :
    Calls Tryz.prog 68 #[.pointer (some ⟨g, 0, none⟩), .string s] w fun e w' => e = .returned (.int .i64 (optI P s)) ∧ w = w' := by
  obtain ⟨c0, c1, f1⟩ := h.cells
  have HO := Lib.hid hO
  clear hO h
  cases hn : noB s with
  | true =>
    have e1 : s.toList.isEmpty = true := by rw [empT, hn]
    have HE : Hid (optI P s = 65535) := by unfold Hid optI; rw [hn]; rfl
    clear hv
    go_enter Tryz.func68, Tryz.ntmps68
    go_wp2
    go_ret
    rw [HE.out]
    exact ⟨rfl, rfl⟩
  | false =>
    have e1 : s.toList.isEmpty = false := by rw [empT, hn]
    have HE : Hid (optI P s = idxT P s) := by unfold Hid optI; rw [hn]; rfl
    have HV := Lib.hid (hv hn)
    clear hv
    go_enter Tryz.func68, Tryz.ntmps68
    go_wp2_with (at_lookup; refine wpList_get rfl _ _ rfl HO.out rfl s rfl hs _ HV.out ?_)
    go_ret
    rw [HE.out]
    exact ⟨rfl, rfl⟩
end Go.Proofs.YtmfoiceofhcicaaGreatDoor
