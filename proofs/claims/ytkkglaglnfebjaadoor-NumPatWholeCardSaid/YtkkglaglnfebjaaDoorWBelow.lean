/- Walks: numpat's Below. -/
import Derived.Test.YtkkglaglnfebjaaDoorWSame
namespace Go.Proofs.YtkkglaglnfebjaaDoor
open Go.RowKit Go.IntWalk

def minus : Aff := ⟨3, ⟨#[]⟩, 0⟩
def aheadL (p : PatD) : List Aff := if p.neg then p.npre else minus :: p.pre
def behindL (p : PatD) : List Aff := if p.neg then p.nsuf else p.suf
theorem minus_own {W W' : World} {b B : Nat} (hk : Keep [] (W.alloc (.cells #[.int .i64 3, .string ⟨#[]⟩, .int .i64 0] 42)) W') (hb : W.heap.size = b) (hB : B ≤ b) : OwnA W' B (.slice (some ⟨b, 0, none⟩) 1 1) [minus] := by
  subst hb
  have h : OwnA (W.alloc (.cells #[.int .i64 3, .string ⟨#[]⟩, .int .i64 0] 42)) W.heap.size (.slice (some ⟨W.heap.size, 0, none⟩) 1 1) [minus] :=
    ⟨rfl, .inr ⟨W.heap.size, 1, _, rfl, Nat.le_refl _, heap_alloc_new W _, Nat.le_refl _, by simp [maxLen], rfl, rfl⟩⟩
  exact (h.mono hB).keep hk (by simp)
/-- What Below hands back. -/
def BPost (w : World) (la lb : List Aff) (e : Ending) (w' : World) : Prop :=
  ∃ a b, e = .returned (.tuple #[a, b, .int .i64 0]) ∧ OwnA w' w.heap.size a la ∧ OwnA w' w.heap.size b lb ∧ (∀ x ∈ a.ownBlock.toList, x ∉ b.ownBlock.toList) ∧ Keep [] w w'

set_option maxRecDepth 100000 in
set_option maxHeartbeats 2000000 in
theorem below_any (w : World) (A1 A2 A3 A4 : Option Addr) (n1 n2 n3 n4 k1 k2 k3 k4 : Nat) (p : PatD) (hp : RdP w (.slice A1 n1 k1) (.slice A2 n2 k2) (.slice A3 n3 k3) (.slice A4 n4 k4) p) (hn : NilP (.slice A1 n1 k1) (.slice A2 n2 k2) (.slice A3 n3 k3) (.slice A4 n4 k4)) (hsz : PatSz p) :
    Calls Tryd.prog 22 #[patV (.slice A1 n1 k1) (.slice A2 n2 k2) (.slice A3 n3 k3) (.slice A4 n4 k4) p] w (if rightB p = true then BPost w (aheadL p) (behindL p) else fun e w' => e = .returned (.tuple #[.slice none 0 0, .slice none 0 0, .int .i64 2]) ∧ Keep [] w w') := by
  have hC : ∀ W, Keep [] w W → Hid (Calls Tryd.prog 20 #[patV (.slice A1 n1 k1) (.slice A2 n2 k2) (.slice A3 n3 k3) (.slice A4 n4 k4) p] W fun e w' => e = .returned (.int .i64 (errB (rightB p))) ∧ Keep [] W w') := fun W hk => pcheck_any W _ _ _ _ p (hp.keep_nil hk) hsz
  have HC := Lib.hid (hC (w.alloc (boxP (.slice A1 n1 k1) (.slice A2 n2 k2) (.slice A3 n3 k3) (.slice A4 n4 k4) p)) ((Keep.refl _ _).alloc _)).out
  have HP0 := Lib.hid (PatAt.new w (.slice A1 n1 k1) (.slice A2 n2 k2) (.slice A3 n3 k3) (.slice A4 n4 k4) p)
  have hcl : ∀ A n k l, RdA w (.slice A n k) l → NilOK (.slice A n k) → l.length ≤ 1000000000 → ∀ W, Keep [] w W → Hid (Calls Tryd.prog 57 #[.slice A n k] W fun e w' => ∃ v, e = .returned v ∧ OwnA w' W.heap.size v l ∧ Keep [] W w') :=
    fun A n k l h1 h2 h3 W hk => clone_any W A n k l (h1.keep_nil hk) (fun h => by subst h; exact h2 n k rfl) h3
  have hcl2 := hcl _ _ _ _ hp.suf hn.2.1 hsz.len.2.1
  have hcl3 := hcl _ _ _ _ hp.npre hn.2.2.1 hsz.len.2.2.1
  have hcl4 := hcl _ _ _ _ hp.nsuf hn.2.2.2 hsz.len.2.2.2
  have HR1 := Lib.hid hp.pre
  have HN1 := Lib.hid hn.1
  have hl1 := hsz.len.1
  clear hC hp hsz hn hcl
  unfold boxP at HP0 HC
  simp only [patV] at HC ⊢
  cases hr : rightB p
  · rw [if_neg (by simp)]
    rw [hr] at HC
    change Hid (Calls _ _ _ _ fun e w' => e = .returned (.int .i64 2) ∧ Keep [] _ w') at HC
    clear hr
    go_enter Tryd.func22, Tryd.ntmps22
    go_wp2_with (go_at_call 20; refine HC.out.mono ?_; rintro e w' ⟨rfl, hk⟩)
    refine bodyPost_ret (v := .tuple #[.slice none 0 0, .slice none 0 0, .int .i64 2]) ?_ rfl ⟨rfl, ((Keep.refl _ _).alloc _).nil hk⟩
    simp [results, Tryd.results22, go_sem]
  rw [if_pos rfl]
  rw [hr] at HC
  change Hid (Calls _ _ _ _ fun e w' => e = .returned (.int .i64 0) ∧ Keep [] _ w') at HC
  clear hr
  obtain ⟨l1, l2, neg, l3, l4, mi, mf, xf, g, g2⟩ := p
  simp only at *
  cases neg
  · go_enter Tryd.func22, Tryd.ntmps22
    go_upto_region 6 with (go_at_call 20; refine HC.out.mono ?_; rintro e w2 ⟨rfl, hk⟩; have HK := Lib.hid (((Keep.refl [] w).alloc _).nil hk); have HP2 := Lib.hid (HP0.out.keep hk (by simp)); obtain ⟨p0, p1, p2, p3, p4, p5, p6, p7, p8, p9, pf, pz⟩ := HP2.out.all; clear hk)
    refine wp_region_U (fun W => W.cell? ⟨w.heap.size, 0, none⟩ = some (.slice A1 n1 k1) ∧ W.cell? ⟨w.heap.size, 1, none⟩ = some (.slice A2 n2 k2)) 10 (by kernel_rfl) ?_
    have s0 : Hid (w2.drew.cell? ⟨w.heap.size, 0, none⟩ = some (.slice A1 n1 k1) ∧ w2.drew.cell? ⟨w.heap.size, 1, none⟩ = some (.slice A2 n2 k2)) := ⟨p0, p1⟩
    refine anyU_take (i := 0) (v := ?v1) [] rfl (by kernel_rfl) (by kernel_rfl) (by kernel_rfl) (fun _ _ _ h => h) (by kernel_rfl) (by kernel_rfl) s0.out (Or.inl ⟨by rfl, ?hy1⟩) ?rest1
    case hy1 => (intro W hW; obtain ⟨hW1, hW2⟩ := hW; go_simp <;> with_reducible rfl)
    simp only [Act.put, List.getElem_toArray, List.getElem_cons_zero, List.setIfInBounds_toArray, List.set_cons_zero, List.set_cons_succ]
    refine anyU_take (i := 2) (v := ?v2) [] rfl (by kernel_rfl) (by kernel_rfl) (by kernel_rfl) (fun _ _ _ h => h) (by kernel_rfl) (by kernel_rfl) s0.out (Or.inl ⟨by rfl, ?hy2⟩) ?rest2
    case hy2 => (intro W hW; obtain ⟨hW1, hW2⟩ := hW; go_simp <;> with_reducible rfl)
    simp only [Act.put, List.getElem_toArray, List.getElem_cons_succ, List.getElem_cons_zero, List.setIfInBounds_toArray, List.set_cons_zero, List.set_cons_succ]
    refine anyU_take (i := 3) (v := ?v3) [] rfl (by kernel_rfl) (by kernel_rfl) (by kernel_rfl) (fun _ _ _ h => h) (by kernel_rfl) (by kernel_rfl) s0.out (Or.inl ⟨by rfl, ?hy3⟩) ?rest3
    case hy3 => (intro W hW; obtain ⟨hW1, hW2⟩ := hW; go_simp <;> with_reducible rfl)
    simp only [Act.put, List.getElem_toArray, List.getElem_cons_succ, List.getElem_cons_zero, List.setIfInBounds_toArray, List.set_cons_zero, List.set_cons_succ]
    refine anyU_take (i := 5) (v := ?v4) [] rfl (by kernel_rfl) (by kernel_rfl) (by kernel_rfl) (fun _ _ _ h => h) (by kernel_rfl) (by kernel_rfl) s0.out (Or.inl ⟨by rfl, ?hy4⟩) ?rest4
    case hy4 => (intro W hW; obtain ⟨hW1, hW2⟩ := hW; go_simp <;> with_reducible rfl)
    simp only [Act.put, List.getElem_toArray, List.getElem_cons_succ, List.getElem_cons_zero, List.setIfInBounds_toArray, List.set_cons_zero, List.set_cons_succ]
    refine anyU_take (i := 6) (v := ?v5) [] rfl (by kernel_rfl) (by kernel_rfl) (by kernel_rfl) (fun _ _ _ h => h) (by kernel_rfl) (by kernel_rfl) s0.out (Or.inl ⟨by rfl, ?hy5⟩) ?rest5
    case hy5 => (intro W hW; obtain ⟨hW1, hW2⟩ := hW; go_simp <;> with_reducible rfl)
    simp only [Act.put, List.getElem_toArray, List.getElem_cons_succ, List.getElem_cons_zero, List.setIfInBounds_toArray, List.set_cons_zero, List.set_cons_succ]
    refine anyU_one (i := 1) (by kernel_rfl) rfl rfl ?_
    intro K hK; simp only [List.getElem_toArray, List.getElem_cons_succ, List.getElem_cons_zero]
    go_simp
    have HPa := Lib.hid ((HP2.out.drewN 1).alloc (.cells #[.int .i64 3, .string ⟨#[]⟩, .int .i64 0] 42))
    have HKa := Lib.hid (HK.out.drew.alloc (.cells #[.int .i64 3, .string ⟨#[]⟩, .int .i64 0] 42))
    have s1 : Hid (_ ∧ _) := And.intro HPa.out.all.1 HPa.out.all.2.1
    refine hK.out _ _ (fun _ => s1.out) ?_
    clear hK
    refine anyU_one (i := 4) (by kernel_rfl) rfl rfl ?_
    intro K hK; simp only [List.getElem_toArray, List.getElem_cons_succ, List.getElem_cons_zero]
    refine wp_append_some (.tmp 20) (.tmp 22) rfl (w0 := w) (B := w2.heap.size) (v := .slice (some ⟨_, 0, none⟩) 1 1) (l := [minus]) (vx := .slice A1 n1 k1) (m := l1) (r := minus :: l1) rfl (minus_own (W := w2.drew) (Keep.refl [] _) rfl (Nat.le_refl _)) (by simp) rfl (HR1.out.keep_nil HKa.out) HN1.out rfl (by simp; omega) HKa.out HK.out.size (by simp) ?_
    intro g1 c1 w3 O1 L1 X1 G1 K1 KK1
    have HO1 := Lib.hid O1
    have HG1 := Lib.hid G1
    have HKb := Lib.hid KK1
    have HPb := Lib.hid (HPa.out.keep K1 (by simp [Value.ownBlock]; omega))
    have s2 : Hid (_ ∧ _) := And.intro HPb.out.all.1 HPb.out.all.2.1
    clear O1 L1 X1 G1 K1 KK1
    refine hK.out _ _ (fun _ => s2.out) ?_
    clear hK
    simp only [Act.put, List.setIfInBounds_toArray, List.set_cons_zero, List.set_cons_succ]
    refine anyU_one (i := 7) (by kernel_rfl) rfl rfl ?_
    intro K hK; simp only [List.getElem_toArray, List.getElem_cons_succ, List.getElem_cons_zero]
    go_simp
    refine (hcl2 _ HKb.out).out.mono ?_
    rintro e w4 ⟨v4, rfl, hv4, hk4⟩
    have HO2 := Lib.hid hv4
    have HKc := Lib.hid (HKb.out.nil hk4)
    have HKd := Lib.hid hk4
    have HPc := Lib.hid (HPb.out.keep hk4 (by simp))
    have s3 : Hid (_ ∧ _) := And.intro HPc.out.all.1 HPc.out.all.2.1
    clear hv4 hk4
    refine hK.out _ _ (fun _ => s3.out) ?_
    clear hK
    refine anyU_one (i := 8) (by kernel_rfl) rfl rfl ?_
    intro K hK; simp only [List.getElem_toArray, List.getElem_cons_succ, List.getElem_cons_zero]
    go_simp
    refine hK.out _ _ (fun _ => s3.out) ?_
    clear hK
    refine anyU_one (i := 9) (by kernel_rfl) rfl rfl ?_
    intro K hK; simp only [List.getElem_toArray, List.getElem_cons_succ, List.getElem_cons_zero]
    go_simp
    refine hK.out _ _ (fun _ => s3.out) ?_
    clear hK
    refine anyU_one (i := 10) (by kernel_rfl) rfl rfl ?_
    intro K hK; simp only [List.getElem_toArray, List.getElem_cons_succ, List.getElem_cons_zero]
    go_simp
    refine hK.out _ _ (fun h => absurd rfl h) ?_
    clear hK
    refine anyU_done (by kernel_rfl) ?_ _
    go_wp2
    refine bodyPost_ret (v := .tuple #[.slice (some ⟨g1, 0, none⟩) (l1.length + 1) c1, v4, .int .i64 0]) ?_ rfl ?_
    · simp [results, Tryd.results22, go_sem]
    · exact ⟨_, _, rfl, (HO1.out.keep HKd.out (by simp)).mono HK.out.size, HO2.out.mono HKb.out.size, fun x hx hy => by
        have h1 := (World.ownsRow.lt HO1.out x (by simpa using hx)).2
        have h2 := (World.ownsRow.lt HO2.out x (by simpa using hy)).1
        omega, HKc.out⟩
  · go_enter Tryd.func22, Tryd.ntmps22
    go_upto_region 5 with (go_at_call 20; refine HC.out.mono ?_; rintro e w2 ⟨rfl, hk⟩; have HK := Lib.hid (((Keep.refl [] w).alloc _).nil hk); have HP2 := Lib.hid (HP0.out.keep hk (by simp)); obtain ⟨p0, p1, p2, p3, p4, p5, p6, p7, p8, p9, pf, pz⟩ := HP2.out.all; clear hk)
    refine wp_region_U (fun W => W.cell? ⟨w.heap.size, 3, none⟩ = some (.slice A3 n3 k3) ∧ W.cell? ⟨w.heap.size, 4, none⟩ = some (.slice A4 n4 k4)) 8 (by kernel_rfl) ?_
    have s0 : Hid (w2.drew.cell? ⟨w.heap.size, 3, none⟩ = some (.slice A3 n3 k3) ∧ w2.drew.cell? ⟨w.heap.size, 4, none⟩ = some (.slice A4 n4 k4)) := ⟨p3, p4⟩
    refine anyU_take (i := 0) (v := ?v6) [] rfl (by kernel_rfl) (by kernel_rfl) (by kernel_rfl) (fun _ _ _ h => h) (by kernel_rfl) (by kernel_rfl) s0.out (Or.inl ⟨by rfl, ?hy6⟩) ?rest6
    case hy6 => (intro W hW; obtain ⟨hW1, hW2⟩ := hW; go_simp <;> with_reducible rfl)
    simp only [Act.put, List.getElem_toArray, List.getElem_cons_zero, List.setIfInBounds_toArray, List.set_cons_zero, List.set_cons_succ]
    refine anyU_take (i := 1) (v := ?v7) [] rfl (by kernel_rfl) (by kernel_rfl) (by kernel_rfl) (fun _ _ _ h => h) (by kernel_rfl) (by kernel_rfl) s0.out (Or.inl ⟨by rfl, ?hy7⟩) ?rest7
    case hy7 => (intro W hW; obtain ⟨hW1, hW2⟩ := hW; go_simp <;> with_reducible rfl)
    simp only [Act.put, List.getElem_toArray, List.getElem_cons_succ, List.getElem_cons_zero, List.setIfInBounds_toArray, List.set_cons_zero, List.set_cons_succ]
    refine anyU_take (i := 3) (v := ?v8) [] rfl (by kernel_rfl) (by kernel_rfl) (by kernel_rfl) (fun _ _ _ h => h) (by kernel_rfl) (by kernel_rfl) s0.out (Or.inl ⟨by rfl, ?hy8⟩) ?rest8
    case hy8 => (intro W hW; obtain ⟨hW1, hW2⟩ := hW; go_simp <;> with_reducible rfl)
    simp only [Act.put, List.getElem_toArray, List.getElem_cons_succ, List.getElem_cons_zero, List.setIfInBounds_toArray, List.set_cons_zero, List.set_cons_succ]
    refine anyU_take (i := 4) (v := ?v9) [] rfl (by kernel_rfl) (by kernel_rfl) (by kernel_rfl) (fun _ _ _ h => h) (by kernel_rfl) (by kernel_rfl) s0.out (Or.inl ⟨by rfl, ?hy9⟩) ?rest9
    case hy9 => (intro W hW; obtain ⟨hW1, hW2⟩ := hW; go_simp <;> with_reducible rfl)
    simp only [Act.put, List.getElem_toArray, List.getElem_cons_succ, List.getElem_cons_zero, List.setIfInBounds_toArray, List.set_cons_zero, List.set_cons_succ]
    refine anyU_one (i := 2) (by kernel_rfl) rfl rfl ?_
    intro K hK; simp only [List.getElem_toArray, List.getElem_cons_succ, List.getElem_cons_zero]
    go_simp
    refine (hcl3 _ HK.out.drew).out.mono ?_
    rintro e w3 ⟨vw3, rfl, hv, hk⟩
    have HOb := Lib.hid hv
    have HKb := Lib.hid (HK.out.drew.nil hk)
    have HLb := Lib.hid hk
    have HPb := Lib.hid ((HP2.out.drewN 1).keep hk (by simp))
    have s1 : Hid (_ ∧ _) := And.intro HPb.out.all.2.2.2.1 HPb.out.all.2.2.2.2.1
    clear hv hk
    refine hK.out _ _ (fun _ => s1.out) ?_
    clear hK
    refine anyU_one (i := 5) (by kernel_rfl) rfl rfl ?_
    intro K hK; simp only [List.getElem_toArray, List.getElem_cons_succ, List.getElem_cons_zero]
    go_simp
    refine (hcl4 _ HKb.out).out.mono ?_
    rintro e w4 ⟨vw4, rfl, hv, hk⟩
    have HOc := Lib.hid hv
    have HKc := Lib.hid (HKb.out.nil hk)
    have HLc := Lib.hid hk
    have HPc := Lib.hid (HPb.out.keep hk (by simp))
    have s2 : Hid (_ ∧ _) := And.intro HPc.out.all.2.2.2.1 HPc.out.all.2.2.2.2.1
    clear hv hk
    refine hK.out _ _ (fun _ => s2.out) ?_
    clear hK
    refine anyU_one (i := 6) (by kernel_rfl) rfl rfl ?_
    intro K hK; simp only [List.getElem_toArray, List.getElem_cons_succ, List.getElem_cons_zero]
    go_simp
    refine hK.out _ _ (fun _ => s2.out) ?_
    clear hK
    refine anyU_one (i := 7) (by kernel_rfl) rfl rfl ?_
    intro K hK; simp only [List.getElem_toArray, List.getElem_cons_succ, List.getElem_cons_zero]
    go_simp
    refine hK.out _ _ (fun _ => s2.out) ?_
    clear hK
    refine anyU_one (i := 8) (by kernel_rfl) rfl rfl ?_
    intro K hK; simp only [List.getElem_toArray, List.getElem_cons_succ, List.getElem_cons_zero]
    go_simp
    refine hK.out _ _ (fun h => absurd rfl h) ?_
    clear hK
    refine anyU_done (by kernel_rfl) ?_ _
    go_wp2
    refine bodyPost_ret (v := .tuple #[vw3, vw4, .int .i64 0]) ?_ rfl ?_
    · simp [results, Tryd.results22, go_sem]
    · exact ⟨_, _, rfl, (HOb.out.keep HLc.out (by simp)).mono HK.out.size, HOc.out.mono HKb.out.size, fun x hx hy => by
        have h1 := (World.ownsRow.lt HOb.out x (by simpa using hx)).2
        have h2 := (World.ownsRow.lt HOc.out x (by simpa using hy)).1
        omega, HKc.out⟩
end Go.Proofs.YtkkglaglnfebjaaDoor
