/- maps.Keys and slices.Sorted: their layings. Walks: choice of the writer of code. Plain: the keys of the map of texts, sorted, are the pool. No walk. Walks: code.compile. -/
import Derived.Shelf.SlIter.Nil
import Derived.Shelf.SortM.Plain
import Derived.Shelf.SortM.SortNone
import Derived.Ground.GgzProg
import Derived.Ground.SlgmProg
import Derived.Test.YtmfoiceofhcicaaGreatDoorProg
import Derived.Test.YtmfoiceofhcicaaGreatDoorKJ
import Derived.Lib.AppendStr
namespace Go.Proofs
open Go.Shelf
def Tryz.keys48_ren : Go.Shelf.Ren := ⟨fun | 7 => 48 | 10 => 67 | n => n, fun | 23 => 98 | 26 => 9 | 3 => 3 | 28 => 104 | 0 => 0 | 27 => 103 | 33 => 128 | 4 => 4 | n => n, fun | n => n⟩
theorem Tryz.keys48 : Go.Proofs.SlLaysZ.n7 Tryz.prog Tryz.keys48_ren := {
  mixed := by kernel_rfl
  f7 := ⟨Tryz.f48.name, by decide, Tryz.func48.trans (congrArg some (by kernel_rfl))⟩
  f10 := ⟨Tryz.f67.name, by decide, Tryz.func67.trans (congrArg some (by kernel_rfl))⟩
  t0 := Tryz.underlying0
  a0 := Tryz.isAgg0
  z0 := Tryz.sizeOf0
  v0 := Tryz.zeroValue0
  t4 := Tryz.underlying4
  a4 := Tryz.isAgg4
  z4 := Tryz.sizeOf4
  v4 := Tryz.zeroValue4
  t23 := Tryz.underlying98
  a23 := Tryz.isAgg98
  z23 := Tryz.sizeOf98
  v23 := Tryz.zeroValue98
  t26 := Tryz.underlying9
  a26 := Tryz.isAgg9
  z26 := Tryz.sizeOf9
  v26 := Tryz.zeroValue9
  t27 := Tryz.underlying103
  a27 := Tryz.isAgg103
  z27 := Tryz.sizeOf103
  v27 := Tryz.zeroValue103
  t28 := Tryz.underlying104
  a28 := Tryz.isAgg104
  z28 := Tryz.sizeOf104
  v28 := Tryz.zeroValue104
  t33 := Tryz.underlying128
  a33 := Tryz.isAgg128
  z33 := Tryz.sizeOf128
  v33 := Tryz.zeroValue128 }
def Tryz.sorted47_ren : Go.Shelf.Ren := ⟨fun | 6 => 47 | 8 => 66 | 9 => 65 | 11 => 93 | 13 => 92 | 12 => 91 | 23 => 120 | 24 => 121 | 14 => 111 | 15 => 112 | 16 => 113 | 17 => 114 | 18 => 115 | 19 => 116 | 20 => 117 | 21 => 118 | 22 => 119 | 25 => 138 | 26 => 139 | 27 => 140 | 28 => 141 | 29 => 142 | 30 => 143 | 31 => 165 | n => n, fun | 26 => 9 | 28 => 104 | 24 => 34 | 0 => 0 | 3 => 3 | 37 => 45 | 48 => 123 | 50 => 188 | 4 => 4 | 40 => 180 | 39 => 179 | 45 => 89 | 5 => 5 | 9 => 9 | 51 => 207 | 55 => 211 | 57 => 227 | 58 => 228 | 33 => 128 | n => n, fun | n => n⟩
theorem Tryz.sorted47 : Go.Proofs.SlLaysZ.n6 Tryz.prog Tryz.sorted47_ren := {
  mixed := by kernel_rfl
  f6 := ⟨Tryz.f47.name, by decide, Tryz.func47.trans (congrArg some (by kernel_rfl))⟩
  f8 := ⟨Tryz.f66.name, by decide, Tryz.func66.trans (congrArg some (by kernel_rfl))⟩
  f11 := ⟨Tryz.f93.name, by decide, Tryz.func93.trans (congrArg some (by kernel_rfl))⟩
  t0 := Tryz.underlying0
  a0 := Tryz.isAgg0
  z0 := Tryz.sizeOf0
  v0 := Tryz.zeroValue0
  t24 := Tryz.underlying34
  a24 := Tryz.isAgg34
  z24 := Tryz.sizeOf34
  v24 := Tryz.zeroValue34
  t26 := Tryz.underlying9
  a26 := Tryz.isAgg9
  z26 := Tryz.sizeOf9
  v26 := Tryz.zeroValue9
  t28 := Tryz.underlying104
  a28 := Tryz.isAgg104
  z28 := Tryz.sizeOf104
  v28 := Tryz.zeroValue104
  i26 := by kernel_rfl }
def Tryz.sort65_ren : Go.Shelf.Ren := ⟨fun | 6 => 65 | 8 => 92 | 9 => 91 | 19 => 120 | 20 => 121 | 21 => 111 | 22 => 112 | 23 => 113 | 24 => 114 | 25 => 115 | 26 => 116 | 27 => 117 | 28 => 118 | 29 => 119 | 36 => 138 | 31 => 139 | 32 => 140 | 37 => 141 | 38 => 142 | 39 => 143 | 41 => 165 | n => n, fun | 27 => 34 | 29 => 9 | 3 => 3 | 32 => 45 | 26 => 34 | 0 => 0 | 44 => 123 | 46 => 188 | 4 => 4 | 36 => 180 | 35 => 179 | 41 => 89 | 5 => 5 | 9 => 9 | 53 => 207 | 57 => 211 | 63 => 227 | 64 => 228 | n => n, fun | n => n⟩
theorem Tryz.sort65 : Go.Proofs.SlLaysM.n6 Tryz.prog Tryz.sort65_ren := {
  mixed := by kernel_rfl
  f6 := ⟨Tryz.f65.name, by decide, Tryz.func65.trans (congrArg some (by kernel_rfl))⟩
  f8 := Tryz.func92.trans (congrArg some (by kernel_rfl))
  f9 := ⟨Tryz.f91.name, by decide, Tryz.func91.trans (congrArg some (by kernel_rfl))⟩
  f19 := Tryz.func120.trans (congrArg some (by kernel_rfl))
  f20 := Tryz.func121.trans (congrArg some (by kernel_rfl))
  f21 := ⟨Tryz.f111.name, by decide, Tryz.func111.trans (congrArg some (by kernel_rfl))⟩
  f22 := ⟨Tryz.f112.name, by decide, Tryz.func112.trans (congrArg some (by kernel_rfl))⟩
  f23 := ⟨Tryz.f113.name, by decide, Tryz.func113.trans (congrArg some (by kernel_rfl))⟩
  f24 := ⟨Tryz.f114.name, by decide, Tryz.func114.trans (congrArg some (by kernel_rfl))⟩
  f25 := ⟨Tryz.f115.name, by decide, Tryz.func115.trans (congrArg some (by kernel_rfl))⟩
  f26 := ⟨Tryz.f116.name, by decide, Tryz.func116.trans (congrArg some (by kernel_rfl))⟩
  f27 := ⟨Tryz.f117.name, by decide, Tryz.func117.trans (congrArg some (by kernel_rfl))⟩
  f28 := ⟨Tryz.f118.name, by decide, Tryz.func118.trans (congrArg some (by kernel_rfl))⟩
  f29 := ⟨Tryz.f119.name, by decide, Tryz.func119.trans (congrArg some (by kernel_rfl))⟩
  f31 := Tryz.func139.trans (congrArg some (by kernel_rfl))
  f32 := Tryz.func140.trans (congrArg some (by kernel_rfl))
  f36 := ⟨Tryz.f138.name, by decide, Tryz.func138.trans (congrArg some (by kernel_rfl))⟩
  f37 := ⟨Tryz.f141.name, by decide, Tryz.func141.trans (congrArg some (by kernel_rfl))⟩
  f38 := ⟨Tryz.f142.name, by decide, Tryz.func142.trans (congrArg some (by kernel_rfl))⟩
  f39 := ⟨Tryz.f143.name, by decide, Tryz.func143.trans (congrArg some (by kernel_rfl))⟩
  f41 := ⟨Tryz.f165.name, by decide, Tryz.func165.trans (congrArg some (by kernel_rfl))⟩
  t0 := Tryz.underlying0
  a0 := Tryz.isAgg0
  z0 := Tryz.sizeOf0
  v0 := Tryz.zeroValue0
  t3 := Tryz.underlying3
  a3 := Tryz.isAgg3
  z3 := Tryz.sizeOf3
  v3 := Tryz.zeroValue3
  t4 := Tryz.underlying4
  a4 := Tryz.isAgg4
  z4 := Tryz.sizeOf4
  v4 := Tryz.zeroValue4
  t5 := Tryz.underlying5
  a5 := Tryz.isAgg5
  z5 := Tryz.sizeOf5
  v5 := Tryz.zeroValue5
  t9 := Tryz.underlying9
  a9 := Tryz.isAgg9
  z9 := Tryz.sizeOf9
  v9 := Tryz.zeroValue9
  t26 := Tryz.underlying34
  a26 := Tryz.isAgg34
  z26 := Tryz.sizeOf34
  v26 := Tryz.zeroValue34
  t27 := Tryz.underlying34
  a27 := Tryz.isAgg34
  z27 := Tryz.sizeOf34
  v27 := Tryz.zeroValue34
  t29 := Tryz.underlying9
  a29 := Tryz.isAgg9
  z29 := Tryz.sizeOf9
  v29 := Tryz.zeroValue9
  t32 := Tryz.underlying45
  a32 := Tryz.isAgg45
  z32 := Tryz.sizeOf45
  v32 := Tryz.zeroValue45
  t35 := Tryz.underlying179
  a35 := Tryz.isAgg179
  z35 := Tryz.sizeOf179
  v35 := Tryz.zeroValue179
  t36 := Tryz.underlying180
  a36 := Tryz.isAgg180
  z36 := Tryz.sizeOf180
  v36 := Tryz.zeroValue180
  t41 := Tryz.underlying89
  a41 := Tryz.isAgg89
  z41 := Tryz.sizeOf89
  v41 := Tryz.zeroValue89
  t44 := Tryz.underlying123
  a44 := Tryz.isAgg123
  z44 := Tryz.sizeOf123
  v44 := Tryz.zeroValue123
  t46 := Tryz.underlying188
  a46 := Tryz.isAgg188
  z46 := Tryz.sizeOf188
  v46 := Tryz.zeroValue188
  t53 := Tryz.underlying207
  a53 := Tryz.isAgg207
  z53 := Tryz.sizeOf207
  v53 := Tryz.zeroValue207
  t57 := Tryz.underlying211
  a57 := Tryz.isAgg211
  z57 := Tryz.sizeOf211
  v57 := Tryz.zeroValue211
  t63 := Tryz.underlying227
  a63 := Tryz.isAgg227
  z63 := Tryz.sizeOf227
  v63 := Tryz.zeroValue227
  t64 := Tryz.underlying228
  a64 := Tryz.isAgg228
  z64 := Tryz.sizeOf228
  v64 := Tryz.zeroValue228 }
open Go.RowKit Go.Maps Go.Sort Go.Shelf
theorem Tryz.sorts47 (m : Nat) : AnyZ.SortsIn Tryz.prog Tryz.sorted47_ren Fence.wide m :=
  ⟨fun blk off cap ss W hH hblk hsz => callsIn_wide.2 (AnyM.slices_Sort_string Tryz.sort65 blk off cap ss W hH hblk hsz),
   fun p cap W => callsIn_wide.2 (AnyM.slices_Sort_string_none Tryz.sort65 p cap W)⟩

theorem Tryz.maps_Keys_48 (mb : Option Nat) (W : World) : CallsIn Fence.wide 5 Tryz.prog 48 #[.map mb] W fun e w' => e = .returned (.func (.func 67) #[] #[.pointer (some ⟨W.heap.size, 0, none⟩)]) ∧ w' = W.alloc (.cells #[.map mb] 98) :=
  AnyZ.keys_in Tryz.keys48 Fence.wide 5 trivial rfl mb W

set_option maxHeartbeats 1000000 in
theorem Tryz.slices_Sorted_keys_47_48 {H : Type} (b nn : Nat) (D0 : DataW H) (R : Value → Option (DataW H × List MemPlace)) (w : World) (hown : w.ownsMap Tryz.prog 9 R b nn D0) (hmax : Maps.size D0 ≤ maxLen) (hbytes : Maps.size D0 * 16 ≤ 140737488355328) :
    CallsIn Fence.wide 5 Tryz.prog 47 #[.func (.func 67) #[] #[.pointer (some ⟨w.heap.size, 0, none⟩)]] (w.alloc (.cells #[.map (some b)] 98)) fun e w' => ∃ (v : Value) (ss : List (List UInt8)), e = .returned v ∧ ss.Perm (strKeys D0) ∧
      w'.ownsRow (w.alloc (.cells #[.map (some b)] 98)).heap.size 9 1 v ss.length ((ss.mergeSort (fun x y => decide (x ≤ y))).map encStr) ∧ (v = .slice none 0 0 ↔ ss = []) ∧ Below (w.alloc (.cells #[.map (some b)] 98)).heap.size (w.alloc (.cells #[.map (some b)] 98)) w' := by
  have hbl := hown.lt
  have hseq : SeqGives Fence.wide 2 Tryz.prog 67 #[.pointer (some ⟨w.heap.size, 0, none⟩)] encStr (fun ss => ss.Perm (strKeys D0)) (Maps.size D0) (w.alloc (.cells #[.map (some b)] 98)) :=
    AnyZ.keys_gives (ρ := Tryz.keys48_ren) { Tryz.keys48 with } Fence.wide _ trivial rfl (by omega) w.heap.size b nn D0 _ (by simp) (by simp) (by
      obtain ⟨es, clock, hb, Ft, hs, hD⟩ := hown
      exact ⟨es, clock, (Below.heap_alloc _ _ b hbl).trans hb, Ft, hs, hD⟩)
  exact AnyZ.sorted_in Tryz.sorted47 Fence.wide 5 trivial trivial trivial trivial rfl (by omega) (Tryz.sorts47 _) (enters_of Tryz.func65 (by kernel_rfl) rfl) 67 #[.pointer (some ⟨w.heap.size, 0, none⟩)] trivial (enters_of Tryz.func67 (by kernel_rfl) rfl) _ _ hmax hbytes _ hseq

end Go.Proofs

namespace Go.Proofs.YtmfoiceofhcicaaGreatDoor
open Go.RowKit Go.IntWalk

set_option maxRecDepth 100000 in
set_option maxHeartbeats 8000000 in
theorem choice_step (n : Nat) (ih : PaC n) : ChC n := by
  intro p ip cv IA im ic S P D g mb B m bv acc w hL hS hBg hBw hk456 hcr hnm hct hhp hq0 hq1 hnsz ho0 ho1 hns hN hb hlen hSt
  obtain ⟨A, cap, rfl, -, hat⟩ := liesC_openS hL
  have HAT := Lib.hid hat
  have HIH := Lib.hid ih
  have HSS := Lib.hid hS
  have HCR := Lib.hid hcr
  have HCT := Lib.hid hct
  have HHP := Lib.hid hhp
  have HN := Lib.hid hN
  have HST := Lib.hid hSt
  have hcl : p.cs.length ≤ 60000 := by have := bulkC_len (bulkF n) p.cs; omega
  have hlp : lenP (lenF n) p = 9 + 6 * p.cs.length + lenC (lenF n) p.cs := by unfold lenP; rw [if_neg (by omega), if_neg (by omega), if_neg (by omega)]
  have HLP := Lib.hid hlp
  rw [hlp] at hlen
  have hgl := hSt.wr.blk.lt
  have hvl := Lib.hid (fun x hx => (hSt.wr.own.lt x hx).2)
  have hcz : cellU (UInt8.ofNat p.k.toNat) = .int .u8 p.k := by
    rcases hk456 with h | h | h <;> rw [h] <;> rfl
  have HCZ := Lib.hid hcz
  have hix := idxT_lt hnm
  have hPl := hN.len
  clear hL hat ih hS hcr hct hhp hN hSt hlp hcz hk456
  go_enter Tryz.func69, Tryz.ntmps69
  go_upto_region 1 with fail
  have hX0 : Blk ((w.alloc (.cells #[.int .i64 p.k, .string p.tx, .string p.nm, .string p.ty, .string p.st, .int .i64 p.off, .slice A p.cs.length cap] 68)).alloc (.cells #[.int .i64 ip.k, .string ip.tx, .string ip.nm, .string ip.ty, .string ip.st, .int .i64 ip.off, .slice IA im ic] 68)) w.heap.size 68 #[.int .i64 p.k, .string p.tx, .string p.nm, .string p.ty, .string p.st, .int .i64 p.off, .slice A p.cs.length cap] := (Blk.new _ _ _).alloc _
  have hI0 : Blk ((w.alloc (.cells #[.int .i64 p.k, .string p.tx, .string p.nm, .string p.ty, .string p.st, .int .i64 p.off, .slice A p.cs.length cap] 68)).alloc (.cells #[.int .i64 ip.k, .string ip.tx, .string ip.nm, .string ip.ty, .string ip.st, .int .i64 ip.off, .slice IA im ic] 68)) (w.heap.size + 1) 68 #[.int .i64 ip.k, .string ip.tx, .string ip.nm, .string ip.ty, .string ip.st, .int .i64 ip.off, .slice IA im ic] := Blk.new' _ _ _ _ (by simp)
  have hK0 : Keep [] w ((w.alloc (.cells #[.int .i64 p.k, .string p.tx, .string p.nm, .string p.ty, .string p.st, .int .i64 p.off, .slice A p.cs.length cap] 68)).alloc (.cells #[.int .i64 ip.k, .string ip.tx, .string ip.nm, .string ip.ty, .string ip.st, .int .i64 ip.off, .slice IA im ic] 68)) := ((Keep.refl [] w).alloc _).alloc _
  have hS0 := (HST.out.alloc (.cells #[.int .i64 p.k, .string p.tx, .string p.nm, .string p.ty, .string p.st, .int .i64 p.off, .slice A p.cs.length cap] 68)).alloc (.cells #[.int .i64 ip.k, .string ip.tx, .string ip.nm, .string ip.ty, .string ip.st, .int .i64 ip.off, .slice IA im ic] 68)
  generalize (w.alloc (.cells #[.int .i64 p.k, .string p.tx, .string p.nm, .string p.ty, .string p.st, .int .i64 p.off, .slice A p.cs.length cap] 68)).alloc (.cells #[.int .i64 ip.k, .string ip.tx, .string ip.nm, .string ip.ty, .string ip.st, .int .i64 ip.off, .slice IA im ic] 68) = W0 at *
  obtain ⟨pb, hpb⟩ : ∃ pb, w.heap.size = pb := ⟨_, rfl⟩
  rw [hpb] at hX0 hI0 ⊢
  have hgp : g ≠ pb := by omega
  have hgi : g ≠ pb + 1 := by omega
  have hvp : Hid (pb ∉ bv.ownBlock.toList) := fun hx => by have := hvl.out pb hx; omega
  have hvi : Hid (pb + 1 ∉ bv.ownBlock.toList) := fun hx => by have := hvl.out _ hx; omega
  have hz0 := hI0.lt
  have hB0 : B ≤ W0.heap.size := by omega
  have HX0 := Lib.hid hX0
  have HI0 := Lib.hid hI0
  have HK0 := Lib.hid hK0
  have HS0 := Lib.hid hS0
  have HPB := Lib.hid hpb
  obtain ⟨c0, c1, f1⟩ := hS0.cells
  obtain ⟨Ab, mbb, cb, rfl⟩ := hS0.wr.own.formM
  clear hX0 hI0 hK0 hS0 hpb
  go_wp2_with (at_builtin; refine wpList_append_b rfl _ _ rfl rfl HS0.out.wr.own (UInt8.ofNat p.k.toNat) p.k HCZ.out rfl (by omega) hB0 ?_; intro v' w' ho hk hl; have hb1 := HS0.out.wr.blk.keep hk (fun hx => HS0.out.wr.ne g hx rfl); have d1 := Blk.cell_eq (i := 1) hb1 rfl; have z1 := hb1.frozen 1; obtain ⟨A2, m2, c2, rfl⟩ := ho.formM; have HST2 := Lib.hid (St.store HS0.out ho hk hl); clear ho hk hl hb1)
  obtain ⟨hX2, hpn⟩ := HST2.out.carry HX0.out hgp.symm hvp.out
  obtain ⟨hI2, hin⟩ := HST2.out.carry HI0.out hgi.symm hvi.out
  have HX2 := Lib.hid hX2
  have HI2 := Lib.hid hI2
  have HPN := Lib.hid hpn
  have HIN := Lib.hid hin
  clear hX2 hI2 hpn hin
  generalize w'.setCell ⟨g, 1, none⟩ (.slice A2 m2 c2) = W2 at *
  have e0 := HST2.out.1.cells.1
  have hB2 : B ≤ W2.heap.size := by have := HST2.out.2.2.size; omega
  have e1 : W2.cell? ⟨pb, 2, none⟩ = some (.string p.nm) := HX2.out.cell_eq rfl
  have hlk := HST2.out.1.look HN.out hnm hns
  have HA := Lib.hid ((HST2.out.1.alloc (.cells #[.int .i64 (idxT P p.nm : Nat)] 3)).drew)
  have HXA := Lib.hid (Blk.drew (Blk.alloc HX2.out (.cells #[.int .i64 (idxT P p.nm : Nat)] 3)))
  have HIA := Lib.hid (Blk.drew (Blk.alloc HI2.out (.cells #[.int .i64 (idxT P p.nm : Nat)] 3)))
  have HW := Lib.hid (word_st (W2.alloc (.cells #[.int .i64 (idxT P p.nm : Nat)] 3)).drew [idxT P p.nm] (.slice (some ⟨W2.heap.size, 0, none⟩) 1 1) HA.out (by simp; omega) (RdC.keep (bs := []) (new_nums W2 [idxT P p.nm] (by simp [maxLen])) (Keep.drew (Keep.refl _ _)) (by simp)) (fun A m c he b o hb => by
    injection he with he
    rw [← he] at hb
    injection hb with hb
    injection hb with hb
    rw [← hb]
    have := HST2.out.1.wr.blk.lt
    omega) (by simp; omega) (by simp) (by simp) (by simp; omega))
  clear c0 c1 f1 d1 z1
  have f0 := HA.out.cells.1
  have f1 : (W2.alloc (.cells #[.int .i64 (idxT P p.nm : Nat)] 3)).drew.cell? ⟨pb, 2, none⟩ = some (.string p.nm) := HXA.out.cell_eq rfl
  have f2 := HA.out.look HN.out hnm hns
  go_region_held3 (fun W => W.cell? ⟨g, 0, none⟩ = some (.map (some mb)) ∧ W.cell? ⟨pb, 2, none⟩ = some (.string p.nm) ∧ (Instr.lookup 98 (.map (some mb)) (.string p.nm) false).run Tryz.prog W = .ok (.int .i64 (idxT P p.nm)) W) (first | exact ⟨e0, e1, hlk⟩ | exact ⟨f0, f1, f2⟩ | exact ⟨q0, q1, q2⟩ | exact ⟨e0, e1, HST2.out.1.drew.look HN.out hnm hns⟩) (first | (go_at_call 50; refine HW.out.mono ?_; rintro e w5 ⟨rfl, v5, hst5⟩; have q0 := hst5.1.cells.1; have hx5 := hst5.carry HXA.out hgp.symm HPN.out; have hi5 := hst5.carry HIA.out hgi.symm HIN.out; have q1 : w5.cell? ⟨pb, 2, none⟩ = some (.string p.nm) := hx5.1.cell_eq rfl; have q2 := hst5.1.look HN.out hnm hns; have q5 : w5.cell? ⟨pb, 5, none⟩ = some (.int .i64 p.off) := hx5.1.cell_eq rfl; have HX5 := Lib.hid hx5; have HI5 := Lib.hid hi5; have HST5 := Lib.hid hst5; clear hst5 hx5 hi5))
  have HPC := Lib.hid (place_st w5 p.off.toNat HST5.out.1 (by have := HST5.out.2.2.size; simp at this; omega) (by simp [w16_len]; omega) (by omega))
  rw [Int.toNat_of_nonneg ho0] at HPC
  clear e0 e1 hlk f0 f1 f2 q0 q1 q2
  go_wp2_with (go_at_call 51; refine HPC.out.mono ?_; rintro e w6 ⟨rfl, v6, hst6⟩; have hx6 := hst6.carry HX5.out.1 hgp.symm HX5.out.2; have hi6 := hst6.carry HI5.out.1 hgi.symm HI5.out.2; have q6 : w6.cell? ⟨pb, 6, none⟩ = some (.slice A p.cs.length cap) := hx6.1.cell_eq rfl; have HX6 := Lib.hid hx6; have HI6 := Lib.hid hi6; have HST6 := Lib.hid hst6; clear hst6 hx6 hi6)
  have HWN := Lib.hid (word_st (w6.alloc (.cells #[.int .i64 (p.cs.length : Nat)] 3)) [p.cs.length] (.slice (some ⟨w6.heap.size, 0, none⟩) 1 1) (HST6.out.1.alloc _) (by have := HST5.out.2.2.size; have := HST6.out.2.2.size; simp at *; omega) (new_nums w6 [p.cs.length] (by simp [maxLen])) (fun A m c he b o hb => by
    injection he with he
    rw [← he] at hb
    injection hb with hb
    injection hb with hb
    rw [← hb]
    have := HST6.out.1.wr.blk.lt
    omega) (by simp [w16_len, w32_len]; omega) (by simp) (by simp) (by simp; omega))
  go_wp2_with (go_at_call 50; refine HWN.out.mono ?_; rintro e w7 ⟨rfl, v7, hst7⟩; have hx7 := hst7.carry (HX6.out.1.alloc _) hgp.symm HX6.out.2; have hi7 := hst7.carry (HI6.out.1.alloc _) hgi.symm HI6.out.2; have q7 : w7.cell? ⟨pb, 6, none⟩ = some (.slice A p.cs.length cap) := hx7.1.cell_eq rfl; have HX7 := Lib.hid hx7; have HI7 := Lib.hid hi7; have HST7 := Lib.hid hst7; clear hst7 hx7 hi7 q6 q5)
  obtain ⟨PRE, hPRE⟩ : ∃ PRE, acc ++ [UInt8.ofNat p.k.toNat] ++ [idxT P p.nm].flatMap w16 ++ w32 p.off.toNat ++ [p.cs.length].flatMap w16 = PRE := ⟨_, rfl⟩
  have HP7 : Hid (Stp w g mb B m D (.slice Ab mbb cb) w7 v7 PRE) := by
    unfold Hid
    rw [← hPRE]
    exact Stp.ahead HK0.out (HST2.out.trans (Stp.ahead (((Keep.refl [] W2).alloc _).drew) (HST5.out.trans (HST6.out.trans (Stp.ahead ((Keep.refl [] w6).alloc _) HST7.out)))))
  have HPRE : Hid (PRE = acc ++ (UInt8.ofNat p.k.toNat :: (w16 (idxT P p.nm) ++ w32 p.off.toNat ++ w16 p.cs.length))) := by
    unfold Hid
    rw [← hPRE]
    simp
  have hPl9 : PRE.length = acc.length + 9 := by
    rw [HPRE.out]
    simp [w16_len, w32_len]
  have hz7 := HP7.out.2.2.size
  have hg7 := HP7.out.1.wr.blk.lt
  have hpb7 := HX7.out.1.lt
  have hib7 := HI7.out.1.lt
  clear hPRE HST2 HX2 HI2 HPN HIN HA HXA HIA HW HST5 HX5 HI5 HPC HST6 HX6 HI6 HWN HST7 hB2 hB0 hz0
  go_loopw [8, 49] (fun hv i wr => ∃ (k : Nat) (v' : Value), k ≤ p.cs.length ∧ i = .int .i64 k ∧ Stp w7 g mb B m D v7 wr v' (PRE ++ headZ P (p.cs.take k)) ∧ OwnN wr w7.heap.size hv (posL (acc.length + 9) k)) (fun _ i _ => p.cs.length - (intOf i).toNat)
  case atStart => exact ⟨0, v7, Nat.zero_le _, rfl, by simpa [headZ] using Stp.refl HP7.out.1, OwnN.nil _ _⟩
  case round =>
    obtain ⟨k, vw, hk, rfl, hst, hon⟩ := hrel
    by_cases hlt : k < p.cs.length
    · obtain ⟨c, hc⟩ : ∃ c, p.cs[k]? = some c := ⟨_, List.getElem?_eq_getElem hlt⟩
      obtain ⟨bb, o, pv, rfl, hSb, hbb, a0, a1, hL⟩ := HAT.out k c hc
      have hkw := (HP7.out.trans hst).2.2
      have hnb : bb ∉ g :: (Value.slice Ab mbb cb).ownBlock.toList := fun hx => by
        have h1 := HSS.out bb hSb
        rcases List.mem_cons.1 hx with hx | hx
        · omega
        · have := (HST.out.wr.own.lt bb hx).1; omega
      have a0' := (hkw.cell (p := ⟨bb, o + k * 2, none⟩) hbb hnb).trans a0
      have a1' := (hkw.cell (p := ⟨bb, o + k * 2 + 1, none⟩) hbb hnb).trans a1
      obtain ⟨Ap, mp, kp, rfl⟩ := hL.form
      have hbr := Nat.lt_of_lt_of_le hbb hkw.size
      have hkey : c.1 ∈ P := HCT.out _ (caseT_key (List.mem_of_getElem? hc))
      have hix2 := idxT_lt hkey
      have hks : c.1.size ≤ 1000000000 := by have := bulkC_at (bulkF n) p.cs k c hc; omega
      have HTK : Hid (headZ P (p.cs.take (k + 1)) = headZ P (p.cs.take k) ++ (w16 (idxT P c.1) ++ w32 0)) := headZ_take hc
      have hhl : (headZ P (p.cs.take k)).length = 6 * k := by rw [headZ_len, List.length_take]; omega
      have hLl : (PRE ++ headZ P (p.cs.take k)).length = acc.length + 9 + 6 * k := by rw [List.length_append, hhl, hPl9]
      obtain ⟨L1, hL1⟩ : ∃ L1, PRE ++ headZ P (p.cs.take k) = L1 := ⟨_, rfl⟩
      have HFIN : Hid (PRE ++ headZ P (p.cs.take (k + 1)) = L1 ++ (w16 (idxT P c.1) ++ w32 0)) := by
        unfold Hid
        rw [HTK.out, ← List.append_assoc, hL1]
      rw [hL1] at hst hLl
      have HSTP := Lib.hid hst
      have HON := Lib.hid hon
      have hgr := hst.1.wr.blk.lt
      have hzr := hst.2.2.size
      clear a0 a1 hL hc hkw hst hon hL1 hhl HTK
      go_upto_region 9 with fail
      have hX1 : Blk (wr.alloc (.cells #[.string c.1, .slice Ap mp kp] 70)) wr.heap.size 70 #[.string c.1, .slice Ap mp kp] := Blk.new _ _ _
      have hK1 : Keep [] wr (wr.alloc (.cells #[.string c.1, .slice Ap mp kp] 70)) := (Keep.refl [] wr).alloc _
      have hS1 := HSTP.out.1.alloc (.cells #[.string c.1, .slice Ap mp kp] 70)
      have hO1 := HON.out.keep hK1 (by simp)
      generalize wr.alloc (.cells #[.string c.1, .slice Ap mp kp] 70) = W1 at *
      obtain ⟨xb, hxb⟩ : ∃ xb, wr.heap.size = xb := ⟨_, rfl⟩
      rw [hxb] at hX1 ⊢
      have hgx : g ≠ xb := by omega
      have hvx : Hid (xb ∉ vw.ownBlock.toList) := fun hx => by have := (HSTP.out.1.wr.own.lt xb hx).2; omega
      have hB1 : B ≤ W1.heap.size := by have := hX1.lt; omega
      have hz1 := hK1.size
      have HX1 := Lib.hid hX1
      have HK1 := Lib.hid hK1
      have HS1 := Lib.hid hS1
      have HO1 := Lib.hid hO1
      have e0 := hS1.cells.1
      have e1 : W1.cell? ⟨xb, 0, none⟩ = some (.string c.1) := hX1.cell_eq rfl
      have hlk := hS1.look HN.out hkey hks
      clear hX1 hK1 hS1 hO1 a0' a1' hxb
      have HA := Lib.hid ((HS1.out.alloc (.cells #[.int .i64 (idxT P c.1 : Nat)] 3)).drew)
      have HXA := Lib.hid (Blk.drew (Blk.alloc HX1.out (.cells #[.int .i64 (idxT P c.1 : Nat)] 3)))
      have HOA := Lib.hid (HO1.out.keep (bs := []) (((Keep.refl [] W1).alloc (.cells #[.int .i64 (idxT P c.1 : Nat)] 3)).drew) (by simp))
      have HW := Lib.hid (word_st (W1.alloc (.cells #[.int .i64 (idxT P c.1 : Nat)] 3)).drew [idxT P c.1] (.slice (some ⟨W1.heap.size, 0, none⟩) 1 1) HA.out (by simp; omega) (RdC.keep (bs := []) (new_nums W1 [idxT P c.1] (by simp [maxLen])) (Keep.drew (Keep.refl _ _)) (by simp)) (fun A m c he b o hb => by
        injection he with he
        rw [← he] at hb
        injection hb with hb
        injection hb with hb
        rw [← hb]
        have := HS1.out.wr.blk.lt
        omega) (by omega) (by simp) (by simp) (by simp; omega))
      have f0 := HA.out.cells.1
      have f1 : (W1.alloc (.cells #[.int .i64 (idxT P c.1 : Nat)] 3)).drew.cell? ⟨xb, 0, none⟩ = some (.string c.1) := HXA.out.cell_eq rfl
      have f2 := HA.out.look HN.out hkey hks
      go_region_held3 (fun W => W.cell? ⟨g, 0, none⟩ = some (.map (some mb)) ∧ W.cell? ⟨xb, 0, none⟩ = some (.string c.1) ∧ (Instr.lookup 98 (.map (some mb)) (.string c.1) false).run Tryz.prog W = .ok (.int .i64 (idxT P c.1)) W) (first | exact ⟨e0, e1, hlk⟩ | exact ⟨f0, f1, f2⟩ | exact ⟨q0, q1, q2⟩ | exact ⟨e0, e1, HS1.out.drew.look HN.out hkey hks⟩) (first | (go_at_call 50; refine HW.out.mono ?_; rintro e w8 ⟨rfl, v8, hst8⟩; have q0 := hst8.1.cells.1; have q1 : w8.cell? ⟨xb, 0, none⟩ = some (.string c.1) := (hst8.carry HXA.out hgx.symm hvx.out).1.cell_eq rfl; have q2 := hst8.1.look HN.out hkey hks; have HO8 := Lib.hid (hst8.carryN HA.out HOA.out); have HST8 := Lib.hid hst8; clear hst8))
      have HPC := Lib.hid (place_st w8 0 HST8.out.1 (by have := HST8.out.2.2.size; simp at this; omega) (by simp [w16_len]; omega) (by omega))
      have hl8 : (L1 ++ [idxT P c.1].flatMap w16).length = acc.length + 9 + 6 * k + 2 := by simp [w16_len]; omega
      rw [hl8] at HPC
      have HPS : Hid (posL (acc.length + 9) (k + 1) = posL (acc.length + 9) k ++ [acc.length + 9 + 6 * k + 2]) := posL_succ _ _
      have hpl := posL_len (acc.length + 9) k
      generalize hnp : acc.length + 9 + 6 * k + 2 = np at *
      have hB8 : w7.heap.size ≤ w8.heap.size := by have := HST8.out.2.2.size; simp at this; omega
      clear e0 e1 hlk f0 f1 f2 q0 q1 q2 hnp hl8
      go_wp2_with (first
        | (go_at_call 51; refine HPC.out.mono ?_; rintro e w9 ⟨rfl, v9, hst9⟩; have HO9 := Lib.hid (hst9.carryN HST8.out.1 HO8.out); have hB9 : w7.heap.size ≤ w9.heap.size := (by have := hst9.2.2.size; omega); have HST9 := Lib.hid hst9; clear hst9)
        | (at_builtin; refine wpList_append_n rfl _ _ rfl rfl HO9.out np rfl (by omega) hB9 ?_; intro v' w' ho hk'; have HO10 := Lib.hid ho; have HK10 := Lib.hid hk'; clear ho hk'))
      have HF := Lib.hid ((HSTP.out.trans (Stp.ahead HK1.out (Stp.ahead (((Keep.refl [] W1).alloc (.cells #[.int .i64 (idxT P c.1 : Nat)] 3)).drew) (HST8.out.trans HST9.out)))).num HO9.out HK10.out)
      go_roundw
      case rel => exact ⟨k + 1, v9, by omega, by go_num, by rw [HFIN.out]; simpa using HF.out, by rw [HPS.out]; exact HO10.out⟩
      case measure => simp [intOf]; omega
    · obtain rfl : k = p.cs.length := by omega
      rw [List.take_length] at hst
      obtain ⟨A8, c8, rfl⟩ := hon.form
      rw [posL_len] at hon ⊢
      have q6 : wr.cell? ⟨pb, 6, none⟩ = some (.slice A p.cs.length cap) := (hst.carry HX7.out.1 hgp.symm HX7.out.2).1.cell_eq rfl
      have HX8 := Lib.hid (hst.carry HX7.out.1 hgp.symm HX7.out.2)
      have HI8 := Lib.hid (hst.carry HI7.out.1 hgi.symm HI7.out.2)
      have HON := Lib.hid hon
      have HS8 := Lib.hid hst
      have hz8 := hst.2.2.size
      have hg8 := hst.1.wr.blk.lt
      obtain ⟨w8, hw8⟩ : ∃ w8, wr = w8 := ⟨_, rfl⟩
      rw [hw8] at q6 HX8 HI8 HON HS8 hz8 hg8 ⊢
      have hh8 := Lib.hid (fun x hx => (HON.out.lt x hx).2)
      clear hst hon q7 hw8
      obtain ⟨a0, ha0⟩ : ∃ a0, acc.length + 9 + 6 * p.cs.length = a0 := ⟨_, rfl⟩
      have HA0 := Lib.hid ha0
      obtain ⟨E, hE⟩ : ∃ E : Nat → List PT → List UInt8, codF P n (ip.nm, ip.off) = E := ⟨_, rfl⟩
      have HE := Lib.hid hE
      have hEl : Hid (∀ a m, (E a m).length = lenF n m) := fun a m => by rw [← HE.out, codF_len]
      clear hE ha0
      go_wp2
      go_loopw [9, 72] (fun ev i wr => ∃ (k : Nat) (v' : Value), k ≤ p.cs.length ∧ i = .int .i64 k ∧ Stp w7 g mb B m D v7 wr v' (PRE ++ headC P (lenF n) a0 (p.cs.take k) ++ headZ P (p.cs.drop k) ++ bodyC E (lenF n) 0 a0 (p.cs.take k)) ∧ OwnN wr w7.heap.size (.slice A8 p.cs.length c8) (posL (acc.length + 9) p.cs.length) ∧ OwnN wr w8.heap.size ev (endC (lenF n) a0 (p.cs.take k)) ∧ w8.heap.size ≤ wr.heap.size) (fun _ i _ => p.cs.length - (intOf i).toNat)
      case atStart => exact ⟨0, _, Nat.zero_le _, rfl, by simpa [headC, bodyC] using HS8.out, HON.out, OwnN.nil _ _, Nat.le_refl _⟩
      case round =>
        obtain ⟨k, vx, hk, rfl, hst, hon, hoe, hz9⟩ := hrel
        by_cases hlt : k < p.cs.length
        · obtain ⟨c, hc⟩ : ∃ c, p.cs[k]? = some c := ⟨_, List.getElem?_eq_getElem hlt⟩
          obtain ⟨bb, o, pv, rfl, hSb, hbb, a1, a2, hL⟩ := HAT.out k c hc
          have hkw := (HP7.out.trans hst).2.2
          have hnS : ∀ x, S x → x ∉ g :: (Value.slice Ab mbb cb).ownBlock.toList := fun x hs hx => by
            have h1 := HSS.out x hs
            rcases List.mem_cons.1 hx with hx | hx
            · omega
            · have := (HST.out.wr.own.lt x hx).1; omega
          have a1' := (hkw.cell (p := ⟨bb, o + k * 2, none⟩) hbb (hnS bb hSb)).trans a1
          have a2' := (hkw.cell (p := ⟨bb, o + k * 2 + 1, none⟩) hbb (hnS bb hSb)).trans a2
          have hL1 := hL.keep hkw (fun x hx hs => hnS x hs hx)
          obtain ⟨Ap, mp, kp, rfl⟩ := hL.form
          have hbr := Nat.lt_of_lt_of_le hbb hkw.size
          have hRC := caseR_at HCR.out hc
          have HTC : Hid (∀ t ∈ textF n c.2, t ∈ P) := fun t ht => HCT.out t (caseT_sub (List.mem_of_getElem? hc) ht)
          have hbc := bulkC_at (bulkF n) p.cs k c hc
          obtain ⟨hb8, cap8, he8, hcell8⟩ := hon.at (posL_at (acc.length + 9) p.cs.length k hlt)
          rw [posL_len] at he8
          injection he8 with he8 _ he9
          subst he8
          subst he9
          have hlc := lenC_take (L := lenF n) hc
          have hlc2 := lenC_take_le (lenF n) p.cs (k + 1)
          have hlen1 : (PRE ++ headC P (lenF n) a0 (p.cs.take k) ++ headZ P (p.cs.drop k) ++ bodyC E (lenF n) 0 a0 (p.cs.take k)).length = a0 + lenC (lenF n) (p.cs.take k) := by
            simp only [List.length_append, headC_len, headZ_len, bodyC_len hEl.out, List.length_take, List.length_drop, hPl9]
            have := HA0.out
            omega
          have HPUT := Lib.hid (head_put (P := P) (L := lenF n) (a := a0) (pre := PRE) (T := bodyC E (lenF n) 0 a0 (p.cs.take k)) hc)
          have HBT : Hid (bodyC E (lenF n) 0 a0 (p.cs.take (k + 1)) = _) := bodyC_take hc
          have HET : Hid (endC (lenF n) a0 (p.cs.take (k + 1)) = _) := endC_take hc
          have hbl8 := (hon.lt hb8 (by simp [Value.ownBlock])).2
          have HSTP := Lib.hid hst
          have HON9 := Lib.hid hon
          have HOE9 := Lib.hid hoe
          have HLC := Lib.hid hL1
          have hgr := hst.1.wr.blk.lt
          have hzr := hst.2.2.size
          clear a1 a2 hL hkw hst hon hoe hL1 hc
          go_upto_region 15 with fail
          have hX1 : Blk (wr.alloc (.cells #[.string c.1, .slice Ap mp kp] 70)) wr.heap.size 70 #[.string c.1, .slice Ap mp kp] := Blk.new _ _ _
          have hK1 : Keep [] wr (wr.alloc (.cells #[.string c.1, .slice Ap mp kp] 70)) := (Keep.refl [] wr).alloc _
          have hS1 := HSTP.out.1.alloc (.cells #[.string c.1, .slice Ap mp kp] 70)
          have hO1 := HON9.out.keep hK1 (by simp)
          have hE1 := HOE9.out.keep hK1 (by simp)
          have hL1 := HLC.out.keep hK1 (by simp)
          have h0 := (hK1.cell (p := ⟨hb8, k, none⟩) hbl8 (by simp)).trans hcell8
          have hI1 := (HSTP.out.carry HI7.out.1 hgi.symm HI7.out.2)
          have hi1 := hI1.1.keep hK1 (by simp)
          generalize wr.alloc (.cells #[.string c.1, .slice Ap mp kp] 70) = W1 at *
          obtain ⟨xb, hxb⟩ : ∃ xb, wr.heap.size = xb := ⟨_, rfl⟩
          rw [hxb] at hX1 ⊢
          have hgx : g ≠ xb := by omega
          have hvx : Hid (xb ∉ vx.ownBlock.toList) := fun hx => by have := (HSTP.out.1.wr.own.lt xb hx).2; omega
          have hB1 : B ≤ W1.heap.size := by have := hX1.lt; omega
          have hz1 := hK1.size
          have HX1 := Lib.hid hX1
          have HK1 := Lib.hid hK1
          have HS1 := Lib.hid hS1
          have HO1 := Lib.hid hO1
          have HE1 := Lib.hid hE1
          have HL1 := Lib.hid hL1
          have HI1 := Lib.hid hi1
          have HVI := Lib.hid hI1.2
          clear hX1 hK1 hS1 hO1 hE1 hL1 hI1 hi1 a1' a2' hxb hcell8 HLC
          rw [hPl9] at HPUT
          generalize hnp : acc.length + 9 + 6 * k + 2 = np at *
          generalize hLL : PRE ++ headC P (lenF n) a0 (p.cs.take k) ++ headZ P (p.cs.drop k) ++ bodyC E (lenF n) 0 a0 (p.cs.take k) = LL at *
          have hnp4 : np + 4 ≤ LL.length := by rw [hlen1]; have := HA0.out; omega
          have hLLl : LL.length ≤ 9000000 := by rw [hlen1]; have := HA0.out; omega
          have HHR := Lib.hid (here_st W1 np HS1.out hnp4 (by omega))
          rw [hlen1, HPUT.out] at HHR
          have hLen := Lib.hid hlen1
          clear hlen1 hnp4 hLLl hLL HPUT hnp
          go_upto_region 16 with (go_at_call 94; refine HHR.out.mono ?_; rintro e w9 ⟨rfl, hst9⟩; have HST9 := Lib.hid hst9; clear hst9)
          obtain ⟨hx9, hn9⟩ := HST9.out.carry HX1.out hgx.symm hvx.out
          obtain ⟨hi9, hm9⟩ := HST9.out.carry HI1.out hgi.symm HVI.out
          have hO9 := HST9.out.carryN HS1.out HO1.out
          have hE9 := HST9.out.carryN HS1.out HE1.out
          have hL9 := HL1.out.keep HST9.out.2.2 (fun x hx hs => by
            have h1 := HSS.out x hs
            rcases List.mem_cons.1 hx with hx | hx
            · omega
            · have := (HS1.out.wr.own.lt x hx).1; omega)
          have hz9' := HST9.out.2.2.size
          have x1 : w9.cell? ⟨xb, 1, none⟩ = some (.slice Ap mp kp) := hx9.cell_eq rfl
          have y0 : w9.cell? ⟨pb + 1, 0, none⟩ = some (.int .i64 ip.k) := hi9.cell_eq rfl
          have y1 : w9.cell? ⟨pb + 1, 1, none⟩ = some (.string ip.tx) := hi9.cell_eq rfl
          have y2 : w9.cell? ⟨pb + 1, 2, none⟩ = some (.string ip.nm) := hi9.cell_eq rfl
          have y3 : w9.cell? ⟨pb + 1, 3, none⟩ = some (.string ip.ty) := hi9.cell_eq rfl
          have y4 : w9.cell? ⟨pb + 1, 4, none⟩ = some (.string ip.st) := hi9.cell_eq rfl
          have y5 : w9.cell? ⟨pb + 1, 5, none⟩ = some (.int .i64 ip.off) := hi9.cell_eq rfl
          have y6 : w9.cell? ⟨pb + 1, 6, none⟩ = some (.slice IA im ic) := hi9.cell_eq rfl
          have hl2 : (PRE ++ headC P (lenF n) a0 (p.cs.take (k + 1)) ++ headZ P (p.cs.drop (k + 1)) ++ bodyC E (lenF n) 0 a0 (p.cs.take k)).length = a0 + lenC (lenF n) (p.cs.take k) := by
            simp only [List.length_append, headC_len, headZ_len, bodyC_len hEl.out, List.length_take, List.length_drop, hPl9]
            have := HA0.out
            omega
          have HX9 := Lib.hid hx9
          have HI9 := Lib.hid hi9
          have HO9 := Lib.hid hO9
          have HE9 := Lib.hid hE9
          generalize hL2 : PRE ++ headC P (lenF n) a0 (p.cs.take (k + 1)) ++ headZ P (p.cs.drop (k + 1)) ++ bodyC E (lenF n) 0 a0 (p.cs.take k) = L2 at *
          have HPA := Lib.hid (HIH.out c.2 (decide (p.k ≠ 4)) ip IA im ic S (.slice Ap mp kp) P D g mb B m vx L2 w9 hL9 HSS.out hBg (by omega) hRC HTC.out HHP.out hq0 hq1 hnsz HN.out (by omega) (by have := HA0.out; omega) HST9.out.1)
          rw [HE.out, hl2] at HPA
          have HL2 := Lib.hid hL2
          have HL2l := Lib.hid hl2
          clear hx9 hn9 hi9 hm9 hO9 hE9 hL9 hL2 hl2 h0
          have hb9 : w8.heap.size ≤ w9.heap.size := by omega
          go_upto_region 18 with (first
            | (go_at_call 49; refine HPA.out.mono ?_; rintro e w10 ⟨rfl, v10, hst10⟩; have HO10 := Lib.hid (hst10.carryN HST9.out.1 HO9.out); have HE10 := Lib.hid (hst10.carryN HST9.out.1 HE9.out); have k1 := hst10.1.cells.2.1; have z1 := hst10.1.cells.2.2; have hz10 := hst10.2.2.size; have HST10 := Lib.hid hst10; obtain ⟨Aq, mq, cq, rfl⟩ := hst10.1.wr.own.formM; clear hst10 x1 y0 y1 y2 y3 y4 y5 y6)
            | (at_builtin; refine wpList_append_b rfl _ _ rfl rfl HST10.out.1.wr.own 7 7 rfl rfl (by rw [List.length_append, hEl.out, HL2l.out]; have := HA0.out; omega) (by omega) ?_; intro v' w' ho hk hl; have hb1 := HST10.out.1.wr.blk.keep hk (fun hx => HST10.out.1.wr.ne g hx rfl); have d1 := Blk.cell_eq (i := 1) hb1 rfl; have z2 := hb1.frozen 1; obtain ⟨A2, m2, c2, rfl⟩ := ho.formM; have HST11 := Lib.hid (St.store HST10.out.1 ho hk hl); clear ho hk hl hb1))
          have hO11 := HST11.out.carryN HST10.out.1 HO10.out
          have hE11 := HST11.out.carryN HST10.out.1 HE10.out
          have hz11 := HST11.out.2.2.size
          generalize w'.setCell ⟨g, 1, none⟩ (.slice A2 m2 c2) = w11 at *
          have HO11 := Lib.hid hO11
          have HE11 := Lib.hid hE11
          have hl11 : (L2 ++ E (a0 + lenC (lenF n) (p.cs.take k)) c.2 ++ [7]).length = a0 + lenC (lenF n) (p.cs.take k) + lenF n c.2 + 1 := by
            rw [List.length_append, List.length_append, hEl.out, HL2l.out]
            rfl
          have HPC := Lib.hid (place_st w11 0 HST11.out.1 (by omega) (by rw [hl11]; have := HA0.out; omega) (by omega))
          rw [hl11] at HPC
          have hel := endC_len (lenF n) (p.cs.take k) a0
          rw [List.length_take] at hel
          generalize hne : a0 + lenC (lenF n) (p.cs.take k) + lenF n c.2 + 1 = ne at *
          clear hO11 hE11 hl11 hne d1 z1 z2 k1
          go_wp2_with (first
            | (go_at_call 51; refine HPC.out.mono ?_; rintro e w12 ⟨rfl, v12, hst12⟩; have HO12 := Lib.hid (hst12.carryN HST11.out.1 HO11.out); have HE12 := Lib.hid (hst12.carryN HST11.out.1 HE11.out); have hB12 : w8.heap.size ≤ w12.heap.size := (by have := hst12.2.2.size; omega); have HST12 := Lib.hid hst12; clear hst12)
            | (at_builtin; refine wpList_append_n rfl _ _ rfl rfl HE12.out ne rfl (by omega) hB12 ?_; intro v' w' ho hk'; have HE13 := Lib.hid ho; have HK13 := Lib.hid hk'; clear ho hk'))
          have HO13 := Lib.hid (HO12.out.keep HK13.out (fun x hx hc => by
            have h1 := hh8.out x hx
            have h2 := (HE12.out.lt x hc).1
            omega))
          have HF := Lib.hid ((HSTP.out.trans (Stp.ahead HK1.out (HST9.out.trans (HST10.out.trans (HST11.out.trans HST12.out))))).num (HE12.out.le hz8) HK13.out)
          have hz13 := HK13.out.size
          go_roundw
          case rel => exact ⟨k + 1, v12, by omega, by go_num, by rw [HBT.out, ← List.append_assoc, HL2.out]; simpa using HF.out, HO13.out, by rw [HET.out]; exact HE13.out, by omega⟩
          case measure => simp [intOf]; omega
        · obtain rfl : k = p.cs.length := by omega
          rw [List.take_length, List.drop_length] at hst
          rw [List.take_length] at hoe
          obtain ⟨A9, c9, rfl⟩ := hoe.form
          rw [endC_len] at hoe ⊢
          have hoe' := hoe
          obtain ⟨z, hz⟩ : ∃ z, a0 + lenC (lenF n) p.cs = z := ⟨_, rfl⟩
          have HZ := Lib.hid hz
          have HS9 : Hid (Stp w7 g mb B m D v7 wr vx (PRE ++ headC P (lenF n) a0 p.cs ++ bodyC E (lenF n) z a0 (p.cs.take 0) ++ bodyC E (lenF n) 0 (a0 + lenC (lenF n) (p.cs.take 0)) (p.cs.drop 0))) := by
            unfold Hid
            simpa [headZ, bodyC, lenC] using hst
          have HOE := Lib.hid hoe
          have hpl : Hid ((PRE ++ headC P (lenF n) a0 p.cs).length = a0) := by
            unfold Hid
            rw [List.length_append, headC_len, hPl9]
            exact HA0.out
          obtain ⟨w9, hw9⟩ : ∃ w9, wr = w9 := ⟨_, rfl⟩
          rw [hw9] at HS9 HOE ⊢
          clear hst hoe hon hoe' hw9 hz
          go_wp2
          go_loopw [105] (fun i wr => ∃ (k : Nat) (v' : Value), k ≤ p.cs.length ∧ i = .int .i64 k ∧ Stp w7 g mb B m D v7 wr v' (PRE ++ headC P (lenF n) a0 p.cs ++ bodyC E (lenF n) z a0 (p.cs.take k) ++ bodyC E (lenF n) 0 (a0 + lenC (lenF n) (p.cs.take k)) (p.cs.drop k)) ∧ OwnN wr w8.heap.size (.slice A9 p.cs.length c9) (endC (lenF n) a0 p.cs)) (fun i _ => p.cs.length - (intOf i).toNat)
          case atStart => exact ⟨0, _, Nat.zero_le _, rfl, HS9.out, HOE.out⟩
          case round =>
            obtain ⟨k, vy, hk, rfl, hst, hoe⟩ := hrel
            by_cases hlt : k < p.cs.length
            · obtain ⟨c, hc⟩ : ∃ c, p.cs[k]? = some c := ⟨_, List.getElem?_eq_getElem hlt⟩
              obtain ⟨b9, cap9, he9, hcell9⟩ := hoe.at (endC_at hc)
              rw [endC_len] at he9
              injection he9 with he9 _ he10
              subst he9
              subst he10
              have hlc := lenC_take (L := lenF n) hc
              have hlc2 := lenC_take_le (lenF n) p.cs (k + 1)
              have HPUT := Lib.hid (end_put (z := z) hEl.out hpl.out hc)
              have hlen1 : (PRE ++ headC P (lenF n) a0 p.cs ++ bodyC E (lenF n) z a0 (p.cs.take k) ++ bodyC E (lenF n) 0 (a0 + lenC (lenF n) (p.cs.take k)) (p.cs.drop k)).length = z := by
                have h1 : lenC (lenF n) (p.cs.take k) + lenC (lenF n) (p.cs.drop k) = lenC (lenF n) p.cs := by
                  have h2 : ∀ a b : List CT, lenC (lenF n) (a ++ b) = lenC (lenF n) a + lenC (lenF n) b := fun a b => by
                    induction a with
                    | nil => simp [lenC]
                    | cons x a ih => simp only [List.cons_append, lenC, ih]; omega
                  rw [← h2, List.take_append_drop]
                rw [List.length_append, List.length_append, hpl.out, bodyC_len hEl.out, bodyC_len hEl.out, ← HZ.out]
                omega
              have hz2 := HZ.out
              have hz3 := HA0.out
              have HHR := Lib.hid (here_st wr (a0 + lenC (lenF n) (p.cs.take k) + lenF n c.2 + 1) hst.1 (by rw [hlen1]; omega) (by rw [hlen1]; omega))
              rw [hlen1, HPUT.out] at HHR
              have HSTP := Lib.hid hst
              have HOE9 := Lib.hid hoe
              generalize hne : a0 + lenC (lenF n) (p.cs.take k) + lenF n c.2 + 1 = ne at *
              clear hst hoe hlen1 HPUT hz2 hz3 hlc hlc2 hne hc
              go_wp2_with (go_at_call 94; refine HHR.out.mono ?_; rintro e w10 ⟨rfl, hst10⟩; have HO10 := Lib.hid (hst10.carryN HSTP.out.1 HOE9.out); have HST10 := Lib.hid hst10; clear hst10)
              go_roundw
              case rel => exact ⟨k + 1, vy, by omega, by go_num, HSTP.out.trans HST10.out, HO10.out⟩
              case measure => simp [intOf]; omega
            · obtain rfl : k = p.cs.length := by omega
              rw [List.take_length, List.drop_length] at hst
              go_wp2
              go_end0
              refine ⟨rfl, vy, ?_⟩
              have hfin := Stp.ahead (Keep.refl [] w) (HP7.out.trans hst)
              have he : PRE ++ headC P (lenF n) a0 p.cs ++ bodyC E (lenF n) z a0 p.cs ++ bodyC E (lenF n) 0 (a0 + lenC (lenF n) p.cs) [] = acc ++ chW P (codF P n (ip.nm, ip.off)) (lenF n) acc.length p := by
                unfold chW
                rw [HE.out, HLP.out, HPRE.out]
                rw [show acc.length + (9 + 6 * p.cs.length + lenC (lenF n) p.cs) = z by rw [← HZ.out, ← HA0.out]; omega, HA0.out]
                simp [bodyC]
              rw [← he]
              exact hfin
theorem parts_any : ∀ n, PaC n
  | 0 => fun _ _ _ _ _ _ _ _ _ _ _ _ _ _ _ _ _ h => h.elim
  | n + 1 => parts_step n (choice_step n (parts_any n))
end Go.Proofs.YtmfoiceofhcicaaGreatDoor

namespace Go.Proofs.YtmfoiceofhcicaaGreatDoor
open Go.RowKit Go.Maps

/-- All keys of a map are texts'. -/
def TextKeys (D : MapD) : Prop := ∃ es, D = .map es ∧ ∀ p ∈ es, ∃ s : ByteArray, p.1 = keyB s
theorem mem_insertD {x y : Lit × DataW Unit} : ∀ {l : List (Lit × DataW Unit)}, y ∈ DataW.insert x l → y = x ∨ y ∈ l
  | [], h => by
    simp only [DataW.insert, List.mem_singleton] at h
    exact .inl h
  | z :: l, h => by
    unfold DataW.insert at h
    split at h
    · rcases List.mem_cons.1 h with h | h
      · exact .inl h
      · exact .inr h
    · rcases List.mem_cons.1 h with h | h
      · exact .inr (by rw [h]; exact List.mem_cons_self ..)
      · rcases mem_insertD h with h | h
        · exact .inl h
        · exact .inr (List.mem_cons_of_mem _ h)
theorem TextKeys.put {D : MapD} (h : TextKeys D) (s : ByteArray) (v : Int) : TextKeys (putD D s v) := by
  obtain ⟨es, rfl, hk⟩ := h
  refine ⟨_, rfl, fun p hp => ?_⟩
  rcases mem_insertD hp with rfl | hp
  · exact ⟨s, rfl⟩
  · exact hk p (List.mem_filter.1 hp).1
theorem TextKeys.zero : ∀ (ts : List ByteArray) {D : MapD}, TextKeys D → TextKeys (zeroD D ts)
  | [], _, h => h
  | s :: ts, _, h => TextKeys.zero ts (h.put s 0)
theorem strKeys_mem {D : MapD} (h : TextKeys D) (s : ByteArray) : s.data.toList ∈ strKeys D ↔ has D (keyB s) = true := by
  obtain ⟨es, rfl, hk⟩ := h
  show s.data.toList ∈ es.map (fun p => strOf p.1) ↔ es.any (fun p => p.1.sameKey (keyB s)) = true
  rw [List.mem_map, List.any_eq_true]
  constructor
  · rintro ⟨p, hp, he⟩
    obtain ⟨t, ht⟩ := hk p hp
    refine ⟨p, hp, ?_⟩
    have h1 : t = s := by
      rw [ht] at he
      have h2 : t.data.toList = s.data.toList := he
      exact keyB_inj (congrArg Lit.string h2)
    rw [ht, h1]
    exact Go.WideAt.sameKey_self (by trivial)
  · rintro ⟨p, hp, he⟩
    have h1 := Go.WideAt.sameKey_eq he
    exact ⟨p, hp, by rw [h1]; rfl⟩
theorem strKeys_nodup {D : MapD} (h : TextKeys D) (ht : Tidy D) : (strKeys D).Nodup := by
  obtain ⟨es, rfl, hk⟩ := h
  obtain ⟨es', he, hp⟩ := ht
  injection he with he
  subst he
  show (es.map (fun p => strOf p.1)).Nodup
  unfold List.Nodup
  rw [List.pairwise_map]
  refine List.Pairwise.imp_of_mem (fun {a b} ha hb hne e => hne ?_) hp
  obtain ⟨s, hs⟩ := hk a ha
  obtain ⟨t, ht⟩ := hk b hb
  rw [hs, ht] at e ⊢
  have e2 : s.data.toList = t.data.toList := e
  exact congrArg Lit.string e2
theorem leB_trans (a b c : List UInt8) (h1 : decide (a ≤ b) = true) (h2 : decide (b ≤ c) = true) : decide (a ≤ c) = true := by
  rw [decide_eq_true_iff] at *
  exact List.le_trans h1 h2
theorem leB_total (a b : List UInt8) : (decide (a ≤ b) || decide (b ≤ a)) = true := by
  rw [Bool.or_eq_true, decide_eq_true_iff, decide_eq_true_iff]
  exact List.le_total a b
/-- The keys of the map of texts, sorted. -/
theorem pool_sorted {D : MapD} {ts : List ByteArray} {ss : List (List UInt8)} (hk : TextKeys D) (ht : Tidy D) (hm : ∀ s, has D (keyB s) = true ↔ s ∈ ts) (hp : ss.Perm (strKeys D)) :
    ss.mergeSort (fun x y => decide (x ≤ y)) = (poolF ts).map fun s => s.data.toList := by
  obtain ⟨R, hR⟩ : ∃ R, ss.mergeSort (fun x y => decide (x ≤ y)) = R := ⟨_, rfl⟩
  have hpR : R.Perm (strKeys D) := by rw [← hR]; exact (List.mergeSort_perm ss _).trans hp
  have hsR : R.Pairwise fun a b => decide (a ≤ b) = true := by rw [← hR]; exact List.pairwise_mergeSort leB_trans leB_total ss
  have hnR : R.Nodup := hpR.nodup_iff.2 (strKeys_nodup hk ht)
  have hrise : RiseT (R.map fun l => (⟨l.toArray⟩ : ByteArray)) := by
    unfold RiseT
    rw [List.pairwise_map]
    refine (hsR.and hnR).imp fun {a b} ⟨h1, h2⟩ => ?_
    unfold kLt
    rw [decide_eq_true_iff]
    show (a.toArray).toList < (b.toArray).toList
    rw [decide_eq_true_iff] at h1
    show a < b
    rcases Classical.em (a < b) with h | h
    · exact h
    · exact absurd (List.le_antisymm h1 (List.not_lt.1 h)) h2
  have hmem : ∀ x, x ∈ R.map (fun l => (⟨l.toArray⟩ : ByteArray)) ↔ x ∈ poolF ts := fun x => by
    rw [pool_mem, ← hm, ← strKeys_mem hk, ← hpR.mem_iff, List.mem_map]
    constructor
    · rintro ⟨l, hl, rfl⟩
      simpa using hl
    · intro h
      exact ⟨_, h, by simp⟩
  have := riseT_unique hrise (pool_rise ts) hmem
  rw [hR, ← this, List.map_map]
  symm
  conv => rhs; rw [← List.map_id R]
  apply List.map_congr_left
  intro l _
  simp
end Go.Proofs.YtmfoiceofhcicaaGreatDoor

namespace Go.Proofs.YtmfoiceofhcicaaGreatDoor
open Go.RowKit Go.IntWalk

theorem tabT_append : ∀ (a b : List ByteArray), tabT (a ++ b) = tabT a ++ tabT b
  | [], _ => rfl
  | s :: a, b => by simp only [List.cons_append, tabT, tabT_append a b, List.append_assoc]
theorem tabT_take {P : List ByteArray} {k : Nat} {s : ByteArray} (h : P[k]? = some s) : tabT (P.take (k + 1)) = tabT (P.take k) ++ (w16 s.size ++ s.data.toList) := by
  rw [take_snoc' h, tabT_append]
  simp [tabT]
section
variable {w w' w1 w6 : World} {g mb B m : Nat} {D : MapD} {v v' : Value} {l l' : List UInt8}
theorem St.store2 (h : St w g mb B m D v l) (hB : w6.heap.size = B) (hg : g < B) (h6 : Keep [g] w6 w) (ho : OwnU w1 B v' l') (hk : Keep v.ownBlock.toList w w1) :
    St (w1.setCell ⟨g, 1, none⟩ v') g mb B m D v' l' ∧ Keep [g] w6 (w1.setCell ⟨g, 1, none⟩ v') := by
  have hks : Keep [g] w1 (w1.setCell ⟨g, 1, none⟩ v') := (Keep.refl _ _).setCell (.inl (by simp)) _
  have hb1 : Blk w1 g 100 #[.map (some mb), v] := h.wr.blk.keep hk fun hx => h.wr.ne g hx rfl
  refine ⟨⟨⟨Blk.set_ hb1 1 _, ho.keep hks fun x hx hc => by have := (ho.lt x hx).1; simp at hc; omega⟩, (h.mp.keep hk h.mne.2).keep hks (by simpa using h.mne.1)⟩, (h6.trans hk fun x hx => .inr ?_).same hks⟩
  rw [hB]
  exact (h.wr.own.lt x hx).1
theorem Stp.six (h : Stp w g mb B m D v w' v' l') (hs : St w g mb B m D v l) (hB : w6.heap.size = B) (h6 : Keep [g] w6 w) : Keep [g] w6 w' :=
  h6.trans h.2.2 fun x hx => by
    rcases List.mem_cons.1 hx with hx | hx
    · exact .inl (by simp [hx])
    · exact .inr (by rw [hB]; exact (hs.wr.own.lt x hx).1)
end
/-- append of a string to bytes of the call's own. -/
theorem wpList_append_s {w : World} {B : Nat} {v : Value} {l : List UInt8} {ops : Array Oper} {rest : List Oper} {o : Oper} {a : Act} {Q : Exit → Act → World → Prop} (hgd : o.guard = none) (s x : Operand)
    (ho : o.op = .call { callee := .builtin .append, args := #[s, x], argTypes := #[25, 9] })
    (hs : a.eval s = v) (hown : OwnU w B v l) (t : ByteArray) (hx : a.eval x = .string t) (hlen : l.length + t.size ≤ 100000000000) (hB : B ≤ w.heap.size)
    (h : ∀ v' w', OwnU w' B v' (l ++ t.data.toList) → Keep v.ownBlock.toList w w' → wpList Tryz.prog ops Q rest (a.put o.dst v') w') : wpList Tryz.prog ops Q (o :: rest) a w := by
  obtain ⟨i0, hi, hz0, hz1, hz2⟩ := info_parts infoU
  refine Lib.wpList_append_own_string _ hgd s x 25 9 ho B 5 i0 Tryz.underlying25 Tryz.underlying9 hi hz0 hz1 hz2 v l.length (l.map cellU) hs hown t hx (by unfold maxLen; omega) (by omega) hB ?_
  intro v' w' h1 h2 _
  refine h v' w' ?_ ((Keep.refl _ w).grown h2 fun k hk => .inl (by simpa using hk))
  unfold OwnU
  rw [List.map_append, List.length_append]
  have e : t.data.toList.length = t.size := by simp
  rw [e]
  exact h1
theorem row_nm {w : World} {B size n b m : Nat} {e : TypeId} {v : Value} {xs : List Value} {D : MapD} (h : w.ownsRow B e size v n xs) (hm : OwnMap w b m D) : b ∉ v.ownBlock.toList := fun hx => by
  obtain ⟨es, clock, he, _⟩ := hm
  rcases h.2 with ⟨rfl, _⟩ | ⟨g, cap, cur, rfl, _, hb, _⟩
  · simp [Value.ownBlock] at hx
  · simp [Value.ownBlock] at hx
    subst hx
    rw [he] at hb
    cases hb
def zeroP : PT := ⟨0, ⟨#[]⟩, ⟨#[]⟩, ⟨#[]⟩, ⟨#[]⟩, 0, []⟩
theorem textKeys_nil : TextKeys (.map []) := ⟨[], rfl, fun p hp => by simp at hp⟩
theorem has_nil (s : ByteArray) : ¬ Go.Maps.has (DataW.map [] : MapD) (keyB s) = true := by simp [Go.Maps.has]
set_option maxRecDepth 100000 in
set_option maxHeartbeats 8000000 in
theorem compile_any (n : Nat) (l : List PT) (S : Nat → Prop) (v : Value) (w : World) (hL : Lies n S w v l) (hS : ∀ x, S x → x < w.heap.size) (hr : rightF n l false = true) (hb : bulkF n l ≤ 20000) :
    Calls Tryz.prog 29 #[v] w fun e w' => ∃ u, e = .returned u ∧ OwnU w' w.heap.size u (codeF n l) ∧ Keep [] w w' := by
  obtain ⟨A, m0, cap, rfl⟩ := hL.form
  have HL := Lib.hid hL
  have HSS := Lib.hid hS
  have HR := Lib.hid hr
  have hmm := @run_makeMap Tryz.prog
  clear hL hS hr
  go_enter Tryz.func29, Tryz.ntmps29
  go_upto_region 2 with fail
  have hg0 : Blk ((w.alloc (.map #[] 0)).alloc (.cells #[.map (some w.heap.size), .slice none 0 0] 100)) (w.heap.size + 1) 100 #[.map (some w.heap.size), .slice none 0 0] := Blk.new' _ _ _ _ (by simp)
  have hm0 : OwnMap ((w.alloc (.map #[] 0)).alloc (.cells #[.map (some w.heap.size), .slice none 0 0] 100)) w.heap.size 0 (.map []) := OwnMap.alloc (World.ownsMap_made w Tryz.prog 9 (plainElem Tryz.prog 3)) _
  have hk0 : Keep [] w ((w.alloc (.map #[] 0)).alloc (.cells #[.map (some w.heap.size), .slice none 0 0] 100)) := ((Keep.refl [] w).alloc _).alloc _
  generalize (w.alloc (.map #[] 0)).alloc (.cells #[.map (some w.heap.size), .slice none 0 0] 100) = W0 at *
  obtain ⟨mb, hmb⟩ : ∃ mb, w.heap.size = mb := ⟨_, rfl⟩
  rw [hmb] at hg0 hm0 ⊢
  have hz0 := hg0.lt
  have HG0 := Lib.hid hg0
  have HM0 := Lib.hid hm0
  have HK0 := Lib.hid hk0
  have HMB := Lib.hid hmb
  have c0 : W0.cell? ⟨mb + 1, 0, none⟩ = some (.map (some mb)) := hg0.cell_eq rfl
  have hSm : ∀ x, S x → x < mb := fun x hx => by have := HSS.out x hx; omega
  have HSM := Lib.hid hSm
  have HTX := Lib.hid (texts_any n l S (.slice A m0 cap) mb 0 (.map []) W0 (HL.out.keep hk0 (by simp)) (fun hs => by have := hSm mb hs; omega) hm0 (by omega))
  clear hg0 hm0 hk0 hmb hSm hmm
  go_wp2_with (go_at_call 46; refine HTX.out.mono ?_; rintro e w1 ⟨rfl, hO1, hk1⟩; have HO1 := Lib.hid hO1; have hb1 := HG0.out.keep hk1 (by simp); have HG1 := Lib.hid hb1; have c1 : w1.cell? ⟨mb + 1, 0, none⟩ = some (.map (some mb)) := hb1.cell_eq rfl; have HK1 := Lib.hid hk1; clear hO1 hk1 hb1 c0)
  have hbt := textF_bulk n l
  have hpl0 := pool_len (textF n l)
  have hsl := fun (x : ByteArray) (hx : x ∈ poolF (textF n l)) => textF_size n l x (pool_mem.1 hx)
  obtain ⟨ts, hts⟩ : ∃ ts, textF n l = ts := ⟨_, rfl⟩
  obtain ⟨P, hPP⟩ : ∃ P, poolF ts = P := ⟨_, rfl⟩
  obtain ⟨D0, hD0⟩ : ∃ D0, zeroD (.map []) ts = D0 := ⟨_, rfl⟩
  have HTS := Lib.hid hts
  have HPP := Lib.hid hPP
  rw [hts] at hbt hpl0 hsl HO1
  rw [hPP] at hpl0 hsl
  rw [hD0] at HO1
  have hTK : TextKeys D0 := by rw [← hD0]; exact TextKeys.zero _ textKeys_nil
  have hHM : ∀ s, Go.Maps.has D0 (keyB s) = true ↔ s ∈ ts := fun s => by
    rw [← hD0, has_zero _ (textKeys_nil.imp fun _ h => h.1)]
    constructor
    · rintro (h | h)
      · exact h
      · exact absurd h (has_nil s)
    · exact .inl
  have hMS := World.ownsMap.size_le HO1.out
  have HKY : Hid (Calls Tryz.prog 48 #[.map (some mb)] w1 fun e w' => e = .returned (.func (.func 67) #[] #[.pointer (some ⟨w1.heap.size, 0, none⟩)]) ∧ w' = w1.alloc (.cells #[.map (some mb)] 98)) := callsIn_wide.1 (Tryz.maps_Keys_48 (some mb) w1)
  have HSO := Lib.hid (callsIn_wide.1 (Tryz.slices_Sorted_keys_47_48 mb (0 + 3 * bulkF n l) D0 (plainElem Tryz.prog 3) w1 HO1.out (by unfold maxLen; omega) (by omega)))
  have HTI := Lib.hid (World.ownsMap.tidy HO1.out law_s)
  have HTK := Lib.hid hTK
  have HHM := Lib.hid hHM
  clear hts hPP hD0 hTK hHM hMS HTX
  go_wp2_with (first
    | (go_at_call 48; refine HKY.out.mono ?_; rintro e w2 ⟨rfl, rfl⟩)
    | (go_at_call 47; refine HSO.out.mono ?_; rintro e w3 ⟨v5, ss, rfl, hpm, hrow, -, hbel⟩; have HPM := Lib.hid hpm; have HROW := Lib.hid hrow; have HBEL := Lib.hid hbel; clear hpm hrow hbel))
  have hps := pool_sorted HTK.out HTI.out HHM.out HPM.out
  rw [HPP.out] at hps
  have hsn : ss.length = P.length := by
    have := congrArg List.length hps
    rw [List.length_mergeSort, List.length_map] at this
    exact this
  have hrw := HROW.out
  rw [hps, hsn, List.map_map] at hrw
  have hro : w3.ownsRow (w1.alloc (.cells #[.map (some mb)] 98)).heap.size 9 1 v5 P.length (P.map Value.string) := by
    have e : (P.map (encStr ∘ fun s => s.data.toList)) = P.map Value.string := by
      apply List.map_congr_left
      intro s _
      show Value.string ⟨s.data.toList.toArray⟩ = _
      rw [Array.toArray_toList]
    rw [e] at hrw
    exact hrw
  have hk13 : Keep [mb] W0 w3 := (HK1.out.alloc _).trans (Keep.of_below HBEL.out : Keep [] _ _) (fun x hx => by cases hx)
  have hg3 : Blk w3 (mb + 1) 100 #[.map (some mb), .slice none 0 0] := HG0.out.keep hk13 (by simp)
  have hO3 : OwnMap w3 mb (0 + 3 * bulkF n l) D0 := (HO1.out.alloc _).keep (Keep.of_below HBEL.out : Keep [] _ _) (by simp)
  clear hps hsn hrw HROW HBEL HPM HKY HSO HHM HTI
  have HG3 := Lib.hid hg3
  have HK13 := Lib.hid hk13
  have HRO := Lib.hid hro
  have HO3 := Lib.hid hO3
  obtain ⟨A5, c5, rfl, -, -, hat5⟩ := RdC.of_own (S := fun _ => True) (by simp) hro (fun _ _ => trivial)
  have HAT5 := Lib.hid hat5
  have c3 : w3.cell? ⟨mb + 1, 0, none⟩ = some (.map (some mb)) := hg3.cell_eq rfl
  have hz3 := hg3.lt
  clear hg3 hk13 hro hO3 hat5 c1
  go_wp2
  go_loopw [27] (fun i wr => ∃ k : Nat, k ≤ P.length ∧ i = .int .i64 k ∧ OwnMap wr mb (3 * bulkF n l + k) (numD D0 0 (P.take k)) ∧ Keep [mb] w3 wr) (fun i _ => P.length - (intOf i).toNat)
  case atStart => exact ⟨0, Nat.zero_le _, rfl, by simpa [numD] using HO3.out, Keep.refl _ _⟩
  case round =>
    obtain ⟨k, hk, rfl, hO, hK⟩ := hrel
    by_cases hlt : k < P.length
    · obtain ⟨s, hs⟩ : ∃ s, P[k]? = some s := ⟨_, List.getElem?_eq_getElem hlt⟩
      obtain ⟨b, o, rfl, -, hbl, hc⟩ := HAT5.out (by omega)
      have hbm : b ≠ mb := fun e => row_nm HRO.out HO3.out (by simp [Value.ownBlock, e])
      have a0 : wr.cell? ⟨b, o + k, none⟩ = some (.string s) := (hK.cell (p := ⟨b, o + k, none⟩) hbl (by simpa using hbm)).trans (hc k _ (by rw [List.getElem?_map, hs]; rfl))
      have c4 : wr.cell? ⟨mb + 1, 0, none⟩ = some (.map (some mb)) := (HG3.out.keep hK (by simp)).cell_eq rfl
      have hbr := Nat.lt_of_lt_of_le hbl hK.size
      have hss := hsl s (List.mem_of_getElem? hs)
      have HT : Hid (numD D0 0 (P.take (k + 1)) = putD (numD D0 0 (P.take k)) s (k : Int)) := by
        unfold Hid
        rw [take_snoc' hs, numD_snoc, List.length_take, show min k P.length = k by omega]
        congr 1
        simp
      have HO := Lib.hid hO
      have HK := Lib.hid hK
      clear hO hK hc hs c3
      go_wp2_with (at_mapUpdate; refine wpList_put rfl _ _ _ rfl HO.out rfl s rfl (k : Int) rfl (by omega) (by omega) (by omega) (by omega) ?_; intro w5 hO5 hk5; have HO5 := Lib.hid hO5; have HK5 := Lib.hid hk5; clear hO5 hk5)
      go_roundw
      case rel => exact ⟨k + 1, by omega, by go_num, by rw [HT.out]; exact HO5.out, HK.out.same HK5.out⟩
      case measure => simp [intOf]; omega
    · obtain rfl : k = P.length := by omega
      rw [List.take_length] at hO
      obtain ⟨D, hD⟩ : ∃ D, numD D0 0 P = D := ⟨_, rfl⟩
      have hNU : Nums D P := ⟨fun t ht => by
        rw [← hD, val_num HO3.out.isMap (by rw [← HPP.out]; exact (pool_rise ts).nodup) ht, Nat.zero_add], by omega⟩
      rw [hD] at hO
      have hSt : St wr (mb + 1) mb mb (3 * bulkF n l + P.length) D (.slice none 0 0) [] := ⟨⟨HG3.out.keep hK (by simp), OwnU.nil _ _⟩, hO⟩
      have hkk : Keep [mb] w wr := (HK0.out.mono (fun x hx => by cases hx)).same (HK13.out.same hK)
      have hLr := HL.out.keep hkk (fun x hx hs => by have := HSM.out x hs; simp at hx; omega)
      have hzr : mb ≤ wr.heap.size := by have := hkk.size; have := HMB.out; omega
      have hro := HRO.out
      have hpr : wr.ownsRow (w1.alloc (.cells #[.map (some mb)] 98)).heap.size 9 1 (.slice A5 P.length c5) P.length (P.map Value.string) := ownsRow_keep hro hK (fun x hx hc => by
        simp at hc
        subst hc
        exact row_nm hro HO3.out hx)
      have hlf := lenF_bulk n l
      have HPA := Lib.hid (parts_any n l false zeroP none 0 0 S (.slice A m0 cap) P D (mb + 1) mb mb (3 * bulkF n l + P.length) (.slice none 0 0) [] wr hLr HSM.out (by omega) hzr HR.out (fun t ht => by rw [← HPP.out]; exact pool_mem.2 (by rw [← HTS.out]; exact ht)) (fun h => by cases h) (by decide) (by decide) (by decide) hNU (by omega) (by simp; omega) hSt)
      rw [List.nil_append, show ([] : List UInt8).length = 0 from rfl] at HPA
      obtain ⟨C, hC⟩ : ∃ C, codF P n (zeroP.nm, zeroP.off) 0 l = C := ⟨_, rfl⟩
      have HCC := Lib.hid hC
      rw [hC] at HPA
      have hCl : C.length = lenF n l := by rw [← hC, codF_len]
      have HKK := Lib.hid hkk
      have HPR := Lib.hid hpr
      have HSTR := Lib.hid hSt
      unfold zeroP at HPA
      clear hO hK hD hNU hSt hkk hLr hro hpr hC c3
      go_upto_region 11 with (first
        | (go_at_call 49; refine HPA.out.mono ?_; rintro e w4 ⟨rfl, v4, hst4⟩; have HST4 := Lib.hid hst4; have d1 := hst4.1.cells.2.1; have hz4 := hst4.2.2.size; obtain ⟨A4, m4, c4, rfl⟩ := hst4.1.wr.own.formM; clear hst4)
        | (at_builtin; refine wpList_append_b rfl _ _ rfl rfl HST4.out.1.wr.own 0 0 rfl rfl (by omega) (by omega) ?_; intro v' w' ho hk hl; have HO6 := Lib.hid ho; have HK6 := Lib.hid hk; have HL6 := Lib.hid hl; clear ho hk hl))
      obtain ⟨A6, m6, c6, rfl⟩ := HO6.out.formM
      have hg4 : Blk w4 (mb + 1) 100 #[.map (some mb), .slice A4 m4 c4] := HST4.out.1.wr.blk
      have hg6 : Blk w' (mb + 1) 100 #[.map (some mb), .slice A4 m4 c4] := hg4.keep HK6.out (fun hx => HST4.out.1.wr.ne _ hx rfl)
      have d6 : w'.cell? ⟨mb + 1, 1, none⟩ = some (.slice A4 m4 c4) := hg6.cell_eq rfl
      have z6 := hg6.frozen 1
      have HG6 := Lib.hid hg6
      clear hg4 hg6 d1
      go_upto_region 12 with fail
      have hg6 := HG6.out
      have hM4 := HST4.out.1.mp.keep HK6.out HST4.out.1.mne.2
      have hP4 : w4.ownsRow (w1.alloc (.cells #[.map (some mb)] 98)).heap.size 9 1 (.slice A5 P.length c5) P.length (P.map Value.string) := ownsRow_keep HPR.out HST4.out.2.2 (fun x hx hc => by
        simp [Value.ownBlock] at hc
        subst hc
        exact own_blk_ne HPR.out HSTR.out.wr.blk (by decide) (by simpa using hx))
      have hP6 := ownsRow_keep hP4 HK6.out (fun x hx hc => own_own_ne hP4 HST4.out.1.wr.own (by decide) x hx hc)
      have hk46 : Keep [] w w' := (HKK.out.trans HST4.out.2.2 (fun x hx => by simp [Value.ownBlock] at hx; exact .inr (by have := HMB.out; omega))).trans HK6.out (fun x hx => .inr (by have := (HST4.out.1.wr.own.lt x hx).1; have := HMB.out; omega)) |>.mono (fun x hx => .inr (by have := HMB.out; simp at hx; omega))
      have hs6 : Keep [mb + 1] w' (w'.setCell ⟨mb + 1, 1, none⟩ (.slice none 0 0)) := (Keep.refl _ _).setCell (.inl (by simp)) _
      have hS6 : St (w'.setCell ⟨mb + 1, 1, none⟩ (.slice none 0 0)) (mb + 1) mb (w'.setCell ⟨mb + 1, 1, none⟩ (.slice none 0 0)).heap.size (3 * bulkF n l + P.length) D (.slice none 0 0) [] := ⟨⟨Blk.set_ hg6 1 _, OwnU.nil _ _⟩, hM4.keep hs6 (by simp)⟩
      have hC6 : OwnU (w'.setCell ⟨mb + 1, 1, none⟩ (.slice none 0 0)) mb (.slice A6 m6 c6) (C ++ [0]) := HO6.out.keep hs6 (fun x hx hc => by
        simp at hc
        subst hc
        exact own_blk_ne HO6.out hg6 (by decide) (by simpa using hx))
      have hP7 := ownsRow_keep hP6 hs6 (fun x hx hc => by
        simp at hc
        subst hc
        exact own_blk_ne hP6 hg6 (by decide) (by simpa using hx))
      have hKw : Keep [] w (w'.setCell ⟨mb + 1, 1, none⟩ (.slice none 0 0)) := hk46.trans hs6 (fun x hx => .inr (by have := HMB.out; simp at hx; omega))
      have hz6 : mb + 1 < (w'.setCell ⟨mb + 1, 1, none⟩ (.slice none 0 0)).heap.size := hS6.wr.blk.lt
      generalize w'.setCell ⟨mb + 1, 1, none⟩ (.slice none 0 0) = W6 at *
      have HS6 := Lib.hid hS6
      have HC6 := Lib.hid hC6
      have HP7 := Lib.hid hP7
      have HKW := Lib.hid hKw
      have hCm : m6 = lenF n l + 1 := by
        obtain ⟨_, _, he⟩ := hC6.form
        injection he with _ he _
        rw [he, List.length_append, hCl]
        rfl
      clear HG6 hg6 hM4 hP4 hP6 hk46 hs6 d6 z6 hS6 hC6 hP7 hKw HPA HSTR HPR HO6 HK6 HL6 HST4 hz4
      obtain ⟨B2, hB2⟩ : ∃ B2, W6.heap.size = B2 := ⟨_, rfl⟩
      rw [hB2] at HS6 hz6
      have HB2 := Lib.hid hB2
      have HWN := Lib.hid (word_st (W6.alloc (.cells #[.int .i64 (P.length : Nat)] 3)) [P.length] (.slice (some ⟨B2, 0, none⟩) 1 1) (HS6.out.alloc _) (by simp; omega) (by rw [← hB2]; exact new_nums W6 [P.length] (by simp [maxLen])) (fun A m c he b o hb => by
        injection he with he
        rw [← he] at hb
        injection hb with hb
        injection hb with hb
        omega) (by simp) (by simp) (by simp) (by simp; omega))
      go_upto_region 13 with (go_at_call 50; (with_reducible refine HWN.out.mono ?_); rintro e w7 ⟨rfl, v7, hst7⟩; have HST7 := Lib.hid hst7; clear hst7)
      have hS7 : St w7 (mb + 1) mb B2 (3 * bulkF n l + P.length) D v7 (w16 P.length) := by simpa using HST7.out.1
      have hK7 : Keep [mb + 1] W6 w7 := Stp.six HST7.out (HS6.out.alloc _) HB2.out ((Keep.refl _ _).alloc _)
      have HS7 := Lib.hid hS7
      have HK7 := Lib.hid hK7
      have hz7 : B2 ≤ w7.heap.size := by have := hK7.size; omega
      clear hS7 hK7 HST7 HWN hB2
      go_wp2
      go_loopw [59] (fun i wr => ∃ (k : Nat) (v' : Value), k ≤ P.length ∧ i = .int .i64 k ∧ St wr (mb + 1) mb B2 (3 * bulkF n l + P.length) D v' (w16 P.length ++ tabT (P.take k)) ∧ Keep [mb + 1] W6 wr) (fun i _ => P.length - (intOf i).toNat)
      case atStart => exact ⟨0, v7, Nat.zero_le _, rfl, by simpa [tabT] using HS7.out, HK7.out⟩
      case round =>
        obtain ⟨k, vw, hk, rfl, hst, hK⟩ := hrel
        by_cases hlt : k < P.length
        · obtain ⟨s, hs⟩ : ∃ s, P[k]? = some s := ⟨_, List.getElem?_eq_getElem hlt⟩
          obtain ⟨A7, c7, he7, -, -, hat7⟩ := RdC.of_own (S := fun _ => True) (by simp) HP7.out (fun _ _ => trivial)
          injection he7 with he7 _ he8
          subst he8
          obtain ⟨b, o, hbo, -, hbl, hc⟩ := hat7 (by omega)
          rw [← he7] at hbo
          subst hbo
          have hbg : b ≠ mb + 1 := fun e => own_blk_ne HP7.out HS6.out.wr.blk (by decide) (by simp [Value.ownBlock, e])
          have a0 : wr.cell? ⟨b, o + k, none⟩ = some (.string s) := (hK.cell (p := ⟨b, o + k, none⟩) hbl (by simpa using hbg)).trans (hc k _ (by rw [List.getElem?_map, hs]; rfl))
          have hbr := Nat.lt_of_lt_of_le hbl hK.size
          have hss := hsl s (List.mem_of_getElem? hs)
          have HT : Hid (w16 P.length ++ tabT (P.take (k + 1)) = w16 P.length ++ tabT (P.take k) ++ w16 s.size ++ s.data.toList) := by
            unfold Hid
            rw [tabT_take hs]
            simp only [List.append_assoc]
          have htl : (tabT (P.take k)).length ≤ 20002 * k := by
            have h1 : ∀ Q : List ByteArray, (∀ x ∈ Q, x.size ≤ 20000) → (tabT Q).length ≤ 20002 * Q.length := fun Q hQ => by
              induction Q with
              | nil => simp [tabT]
              | cons x Q ih =>
                have h2 := ih (fun y hy => hQ y (List.mem_cons_of_mem _ hy))
                have h3 := hQ x (List.mem_cons_self ..)
                have h4 : x.data.toList.length = x.size := by simp
                simp only [tabT, List.length_append, w16_len, List.length_cons]
                omega
            have h2 := h1 (P.take k) (fun x hx => by have := hsl x (List.mem_of_mem_take hx); omega)
            rw [List.length_take] at h2
            omega
          have HST8 := Lib.hid hst
          have HK8 := Lib.hid hK
          have hzr8 := hK.size
          have hlen8 : (w16 P.length ++ tabT (P.take k)).length ≤ 500000000 := by rw [List.length_append, w16_len]; omega
          obtain ⟨LL, hLL⟩ : ∃ LL, w16 P.length ++ tabT (P.take k) = LL := ⟨_, rfl⟩
          rw [hLL] at HST8 HT hlen8
          have hb2 := HB2.out
          have HWN := Lib.hid (word_st (wr.alloc (.cells #[.int .i64 (s.size : Nat)] 3)) [s.size] (.slice (some ⟨wr.heap.size, 0, none⟩) 1 1) (HST8.out.alloc _) (by simp; omega) (new_nums wr [s.size] (by simp [maxLen])) (fun A m c he b o hb => by
            injection he with he
            rw [← he] at hb
            injection hb with hb
            injection hb with hb
            rw [← hb]
            have := HST8.out.wr.blk.lt
            omega) (by omega) (by simp) (by simp) (by simp; omega))
          have hzz : B2 ≤ wr.heap.size := by omega
          clear hst hK hc hs hLL hb2 he7 hat7 htl
          go_wp2_with (first
            | (go_at_call 50; (with_reducible refine HWN.out.mono ?_); rintro e w8 ⟨rfl, v8, hst8⟩; have HST9 := Lib.hid hst8; have d1 := hst8.1.cells.2.1; have z1 := hst8.1.cells.2.2; have hz8 := hst8.2.2.size; have HK9 := Lib.hid (Stp.six hst8 (HST8.out.alloc _) HB2.out (HK8.out.alloc _)); obtain ⟨A8, m8, c8, rfl⟩ := hst8.1.wr.own.formM; clear hst8)
            | (at_builtin; refine wpList_append_s rfl _ _ rfl rfl HST9.out.1.wr.own s rfl (by simp [w16_len]; omega) (by simp at hz8; omega) ?_; intro v' w' ho hk'; have hb1 := HST9.out.1.wr.blk.keep hk' (fun hx => HST9.out.1.wr.ne _ hx rfl); have d2 := Blk.cell_eq (i := 1) hb1 rfl; have z2 := hb1.frozen 1; obtain ⟨A9, m9, c9, rfl⟩ := ho.formM; have HFF := Lib.hid (St.store2 HST9.out.1 HB2.out (by omega) HK9.out ho hk'); clear ho hk' hb1))
          go_roundw
          case rel => exact ⟨k + 1, _, by omega, by go_num, by rw [HT.out]; simpa using HFF.out.1, HFF.out.2⟩
          case measure => simp [intOf]; omega
        · obtain rfl : k = P.length := by omega
          rw [List.take_length] at hst
          obtain ⟨BY, hBY⟩ : ∃ BY, w16 P.length ++ tabT P = BY := ⟨_, rfl⟩
          have hbyl : BY.length ≤ 500000000 := by
            have h1 : ∀ Q : List ByteArray, (∀ x ∈ Q, x.size ≤ 20000) → (tabT Q).length ≤ 20002 * Q.length := fun Q hQ => by
              induction Q with
              | nil => simp [tabT]
              | cons x Q ih =>
                have h2 := ih (fun y hy => hQ y (List.mem_cons_of_mem _ hy))
                have h3 := hQ x (List.mem_cons_self ..)
                have h4 : x.data.toList.length = x.size := by simp
                simp only [tabT, List.length_append, w16_len, List.length_cons]
                omega
            have h2 := h1 P (fun x hx => by have := hsl x hx; omega)
            rw [← hBY, List.length_append, w16_len]
            omega
          rw [hBY] at hst
          have HST8 := Lib.hid hst
          have HK8 := Lib.hid hK
          have hzr8 := hK.size
          have hb2 := HB2.out
          have hC8 := HC6.out.keep hK (fun x hx hc => by
            simp at hc
            subst hc
            exact own_blk_ne HC6.out HS6.out.wr.blk (by decide) (by simpa using hx))
          have HC8 := Lib.hid hC8
          have HBY := Lib.hid hBY
          have HPC := Lib.hid (place_st wr (lenF n l + 1) hst (by omega) (by omega) (by omega))
          have hcm : ((lenF n l + 1 : Nat) : Int) = (lenF n l : Int) + 1 := by omega
          rw [hcm] at HPC
          clear hst hK hC8 hBY hb2 hcm
          go_upto_region 20 with (go_at_call 51; (with_reducible refine HPC.out.mono ?_); rintro e w9 ⟨rfl, v9, hst9⟩; have HST9 := Lib.hid hst9; have d1 := hst9.1.cells.2.1; have hz9 := hst9.2.2.size; have HK9 := Lib.hid (Stp.six hst9 HST8.out HB2.out HK8.out); obtain ⟨A9, m9, c9, rfl⟩ := hst9.1.wr.own.formM; clear hst9)
          have hC9 := HC8.out.keep HST9.out.2.2 (fun x hx hc => by
            rcases List.mem_cons.1 hc with hc | hc
            · subst hc
              exact own_blk_ne HC8.out HST8.out.wr.blk (by decide) (by simpa using hx)
            · have h1 := (HST8.out.wr.own.lt x hc).1
              have h2 := (HC6.out.lt x hx).2
              have h3 := HB2.out
              omega)
          have hCf := hC9.form
          have hCe : (C ++ [0]).length = lenF n l + 1 := by rw [List.length_append, hCl]; rfl
          obtain ⟨bc, mc, cc, hbc⟩ := own_some hC9 (by omega)
          injection hbc with hbc hmc hcc
          subst hbc
          subst hcc
          have HC9 := Lib.hid hC9
          have hfin : Hid (BY ++ w32 (lenF n l + 1) ++ (C ++ [0]) = codeF n l) := by
            unfold Hid
            rw [← HBY.out, ← HCC.out]
            unfold codeF
            rw [HTS.out, HPP.out]
            simp only [List.append_assoc]
            rfl
          have hz9' : B2 ≤ w9.heap.size := by have := HB2.out; omega
          have HCEL : Hid (∀ j u, ((C ++ [0]).map cellU)[j]? = some u → w9.cell? ((⟨bc, 0, none⟩ : Addr).add j) = some u) := fun j u hu => by
            have hj := (List.getElem?_eq_some_iff.1 hu).1
            rw [List.length_map] at hj
            have hadd : (⟨bc, 0, none⟩ : Addr).add j = ⟨bc, j, none⟩ := by unfold Addr.add; split <;> simp_all
            rw [hadd]
            rw [(HC9.out.at j hj).1, ← hu, List.getElem?_map, List.getD_eq_getElem?_getD, List.getElem?_eq_getElem hj]
            rfl
          have hmbz := HMB.out
          clear hC9 hCf hmc
          go_wp2_with (at_builtin; refine wpList_append_us rfl _ _ rfl rfl HST9.out.1.wr.own (C ++ [0]) ⟨bc, 0, none⟩ c6 (by rw [hCe]; rfl) HCEL.out (by rw [List.length_append, w32_len]; omega) hz9' ?_; intro v' w' ho hk')
          go_ret
          refine ⟨v', rfl, ?_, ?_⟩
          · rw [hfin.out] at ho
            exact ho.le (by omega)
          · exact (HKW.out.trans HK9.out (fun x hx => .inr (by simp at hx; omega))).trans hk' (fun x hx => .inr (by have := (HST9.out.1.wr.own.lt x hx).1; omega))
end Go.Proofs.YtmfoiceofhcicaaGreatDoor
