/- Walks: message of the reader of messages. -/
import Derived.Test.YtjldgcpmdcoejaaGreatDoorML
import Derived.ScopeJumps
namespace Go.Proofs.YtjldgcpmdcoejaaGreatDoor
open Go.RowKit

theorem ofFn_getM (t : Array Value) (n : Nat) (h : t.size = n) : t = Array.ofFn (fun i : Fin n => t.getD i undef) := by
  apply Array.ext
  · simp [h]
  · intro i h1 h2
    simp [Array.getD, h1]
set_option maxRecDepth 100000 in
theorem frame116 (t : Array Value) (h : t.size = 116) : ∃ u : Nat → Value, t = #[u 0, u 1, u 2, u 3, u 4, u 5, u 6, u 7, u 8, u 9, u 10, u 11, u 12, u 13, u 14, u 15, u 16, u 17, u 18, u 19, u 20, u 21, u 22, u 23, u 24, u 25, u 26, u 27, u 28, u 29, u 30, u 31, u 32, u 33, u 34, u 35, u 36, u 37, u 38, u 39, u 40, u 41, u 42, u 43, u 44, u 45, u 46, u 47, u 48, u 49, u 50, u 51, u 52, u 53, u 54, u 55, u 56, u 57, u 58, u 59, u 60, u 61, u 62, u 63, u 64, u 65, u 66, u 67, u 68, u 69, u 70, u 71, u 72, u 73, u 74, u 75, u 76, u 77, u 78, u 79, u 80, u 81, u 82, u 83, u 84, u 85, u 86, u 87, u 88, u 89, u 90, u 91, u 92, u 93, u 94, u 95, u 96, u 97, u 98, u 99, u 100, u 101, u 102, u 103, u 104, u 105, u 106, u 107, u 108, u 109, u 110, u 111, u 112, u 113, u 114, u 115] := ⟨fun i => t.getD i undef, (ofFn_getM t 116 h).trans (by kernel_rfl)⟩

/-- What holds of the memory at the label. -/
structure MS (F : Nat) (w0 : World) (B g : Nat) (s : ByteArray) (p0 d : Nat) (v0 : Value) (hs : List Bool) (lb rb : Nat) (w : World) (p n : Nat) (l : List PT) (u v : Value) (S : Nat → Prop) : Prop where
  hl : Blk w lb 22 #[u]
  hr : Blk w rb 61 #[.pointer (some ⟨g, 0, none⟩)]
  rr : Rr w g s p n d v
  hh : Hs B w v hs
  own : OwnM F S w w0.heap.size u l
  hS : ∀ b, S b → w0.heap.size ≤ b ∧ b < w.heap.size ∧ b ∉ u.ownBlock.toList ∧ b ∉ v.ownBlock.toList ∧ b ≠ lb ∧ b ≠ rb
  hv : ∀ b ∈ v.ownBlock.toList, b ∈ v0.ownBlock.toList ∨ w0.heap.size ≤ b
  kp : Keep (g :: v0.ownBlock.toList) w0 w
  lbg : w0.heap.size ≤ lb
  rbg : w0.heap.size ≤ rb
  p0p : p0 ≤ p
  ps : p ≤ s.size
  n1 : n ≤ 1024
  ll : l.length ≤ p
  tx : ∀ a ∈ l, a.tx.size ≤ p
theorem Keep.undraw {bs : List Nat} {w w' : World} {k : Nat} (h : Keep bs (w.drewN k) w') : Keep bs w w' := ⟨h.os, h.tape, h.output, h.size, h.block⟩
section
variable {F B g p0 d lb rb p n p' n' : Nat} {w0 w w' : World} {s : ByteArray} {v0 u v v' : Value} {hs : List Bool} {l : List PT} {S : Nat → Prop}
theorem MS.lbn (h : MS F w0 B g s p0 d v0 hs lb rb w p n l u v S) : lb ≠ g ∧ lb ≠ rb ∧ rb ≠ g ∧ lb ∉ v.ownBlock.toList ∧ rb ∉ v.ownBlock.toList ∧ lb ∉ u.ownBlock.toList ∧ rb ∉ u.ownBlock.toList ∧ g ∉ u.ownBlock.toList ∧ g ∉ v.ownBlock.toList :=
  ⟨Blk.ne_ h.hl h.rr (by decide), Blk.ne_ h.hl h.hr (by decide), Blk.ne_ h.hr h.rr (by decide), fun hx => own_blk_ne h.hh h.hl (by decide) (by simpa using hx), fun hx => own_blk_ne h.hh h.hr (by decide) (by simpa using hx),
    ownM_ne h.own h.hl (by decide), ownM_ne h.own h.hr (by decide), ownM_ne h.own h.rr (by decide), fun hx => own_blk_ne h.hh h.rr (by decide) (by simpa using hx)⟩
theorem MS.uv (h : MS F w0 B g s p0 d v0 hs lb rb w p n l u v S) : ∀ x ∈ u.ownBlock.toList, x ∉ v.ownBlock.toList := by
  obtain ⟨_, _, hw2, _⟩ := h.own
  exact own_own_ne hw2 h.hh (by decide)
/-- Reading on: what is listed stands as it stood. -/
theorem MS.step (h : MS F w0 B g s p0 d v0 hs lb rb w p n l u v S) (hg : g < w0.heap.size) (hk : Keep (g :: v.ownBlock.toList) w w') (hr' : Rr w' g s p' n' d v') (hh' : Hs B w' v' hs) (hv' : ∀ b ∈ v'.ownBlock.toList, b ∈ v.ownBlock.toList ∨ w.heap.size ≤ b) (hp : p ≤ p') (hs' : p' ≤ s.size) (hn : n' ≤ 1024) :
    MS F w0 B g s p0 d v0 hs lb rb w' p' n' l u v' S := by
  obtain ⟨n1, n2, n3, n4, n5, n6, n7, n8, n9⟩ := h.lbn
  have hz := hk.size
  have hz0 := h.kp.size
  refine ⟨h.hl.keep hk (by simp; exact ⟨n1, by simpa using n4⟩), h.hr.keep hk (by simp; exact ⟨n3, by simpa using n5⟩), hr', hh', h.own.keep hk (fun x hx hc => ?_) (fun x hx hc => ?_), fun b hb => ?_, fun b hb => ?_, ?_, h.lbg, h.rbg, Nat.le_trans h.p0p hp, hs', hn, Nat.le_trans h.ll hp, fun a ha => Nat.le_trans (h.tx a ha) hp⟩
  · obtain ⟨q1, q2, q3, q4, _⟩ := h.hS x hc
    rcases List.mem_cons.1 hx with hx | hx
    · omega
    · exact q4 hx
  · rcases List.mem_cons.1 hc with hc | hc
    · subst hc; exact n8 hx
    · exact h.uv x hx hc
  · obtain ⟨q1, q2, q3, q4, q5, q6⟩ := h.hS b hb
    refine ⟨q1, by omega, q3, fun hc => ?_, q5, q6⟩
    rcases hv' b hc with hc | hc
    · exact q4 hc
    · omega
  · rcases hv' b hb with hc | hc
    · exact h.hv b hc
    · exact .inr (by omega)
  · refine h.kp.trans hk (fun x hx => ?_)
    rcases List.mem_cons.1 hx with hx | hx
    · exact .inl (by simp [hx])
    · rcases h.hv x hx with hx | hx
      · exact .inl (List.mem_cons_of_mem _ hx)
      · exact .inr hx
theorem MS.draw (h : MS F w0 B g s p0 d v0 hs lb rb w p n l u v S) (k : Nat) : MS F w0 B g s p0 d v0 hs lb rb (w.drewN k) p n l u v S :=
  ⟨h.hl, h.hr, h.rr, h.hh, h.own.keep (bs := []) ((Keep.refl _ _).drewN k) (by simp) (by simp), h.hS, h.hv, h.kp.drewN k, h.lbg, h.rbg, h.p0p, h.ps, h.n1, h.ll, h.tx⟩
theorem MS.cells (h : MS F w0 B g s p0 d v0 hs lb rb w p n l u v S) : w.cell? ⟨g, 0, none⟩ = some (.string s) ∧ w.cell? ⟨g, 1, none⟩ = some (.int .i64 p) ∧ w.cell? ⟨g, 2, none⟩ = some (.int .i64 n) ∧ w.cell? ⟨g, 3, none⟩ = some (.int .i64 d) ∧ w.cell? ⟨g, 4, none⟩ = some v ∧
    w.frozen? ⟨g, 1, none⟩ = false ∧ w.cell? ⟨rb, 0, none⟩ = some (.pointer (some ⟨g, 0, none⟩)) ∧ w.cell? ⟨lb, 0, none⟩ = some u ∧ w.frozen? ⟨lb, 0, none⟩ = false :=
  have c := h.rr.cells
  ⟨c.1, c.2.1, c.2.2.1, c.2.2.2.1, c.2.2.2.2.1, c.2.2.2.2.2.1, h.hr.cell_eq rfl, h.hl.cell_eq rfl, h.hl.frozen 0⟩
/-- A part more, in the list's variable. -/
theorem MS.push {l' : List PT} {u' : Value} {S' : Nat → Prop} (h : MS F w0 B g s p0 d v0 hs lb rb w p n l u v S) (hk : Keep (lb :: u.ownBlock.toList) w w') (hl : Blk w' lb 22 #[u']) (ho : OwnM F S' w' w0.heap.size u' l')
    (hS' : ∀ b, S' b → w0.heap.size ≤ b ∧ b < w'.heap.size ∧ b ∉ u'.ownBlock.toList ∧ b ∉ v.ownBlock.toList ∧ b ≠ lb ∧ b ≠ rb) (hll : l'.length ≤ p) (htx : ∀ a ∈ l', a.tx.size ≤ p) :
    MS F w0 B g s p0 d v0 hs lb rb w' p n l' u' v S' := by
  obtain ⟨n1, n2, n3, n4, n5, n6, n7, n8, n9⟩ := h.lbn
  refine ⟨hl, h.hr.keep hk (by simp; exact ⟨fun e => n2 e.symm, by simpa using n7⟩), h.rr.keep hk (by simp; exact ⟨fun e => n1 e.symm, by simpa using n8⟩), h.hh.keep hk (fun x hx hc => ?_), ho, hS', h.hv, h.kp.trans hk (fun x hx => .inr ?_), h.lbg, h.rbg, h.p0p, h.ps, h.n1, hll, htx⟩
  · rcases List.mem_cons.1 hc with hc | hc
    · subst hc; exact n4 hx
    · exact h.uv x hc hx
  · rcases List.mem_cons.1 hx with hx | hx
    · rw [hx]; exact h.lbg
    · exact (h.own.lt x hx).1
end
section
variable {F B g p0 d lb rb p n p' n2 : Nat} {w0 w w' W : World} {s : ByteArray} {v0 u v u' : Value} {hs : List Bool} {l l2 : List PT} {S : Nat → Prop}
/-- Behind put, and with the place moved on. -/
theorem MS.put (h : MS F w0 B g s p0 d v0 hs lb rb w p n l u v S) (hg : g < w0.heap.size) (hk : Keep ([lb, g] ++ u.ownBlock.toList) w w') (hl : Blk w' lb 22 #[u']) (ho : OwnM F S w' w0.heap.size u' l2)
    (hu' : ∀ b ∈ u'.ownBlock.toList, b ∈ u.ownBlock.toList ∨ w.heap.size ≤ b) (hkW : Keep [g] w' W) (hr : Rr W g s p' n2 d v) (hp : p ≤ p') (hp' : p' ≤ s.size) (hn : n2 ≤ 1024) (hll : l2.length ≤ p') (htx : ∀ a ∈ l2, a.tx.size ≤ p') :
    MS F w0 B g s p0 d v0 hs lb rb W p' n2 l2 u' v S := by
  obtain ⟨n1, n2, n3, n4, n5, n6, n7, n8, n9⟩ := h.lbn
  have hkk : Keep ([lb, g] ++ u.ownBlock.toList) w W := hk.same (hkW.mono (fun x hx => .inl (by simp at hx; simp [hx])))
  have hz := hkk.size
  have hgs : ¬ S g := fun hc => by have := (h.hS g hc).1; omega
  have hgl : g < w'.heap.size := Nat.lt_of_lt_of_le h.rr.lt hk.size
  have hun : ∀ x ∈ u'.ownBlock.toList, x ≠ g := fun x hx hc => by
    subst hc
    rcases hu' x hx with hx | hx
    · exact n8 hx
    · have := h.rr.lt; omega
  refine ⟨hl.keep hkW (by simpa using n1), h.hr.keep hkk (by simp; exact ⟨fun e => n2 e.symm, n3, by simpa using n7⟩), hr, h.hh.keep hkk (fun x hx hc => ?_), ho.keep hkW (fun x hx => by simp at hx; subst hx; exact hgs) (fun x hx hc => hun x hx (by simpa using hc)), fun b hb => ?_, h.hv, h.kp.trans hkk (fun x hx => ?_), h.lbg, h.rbg, Nat.le_trans h.p0p hp, hp', hn, hll, htx⟩
  · rcases List.mem_append.1 hc with hc | hc
    · simp at hc
      rcases hc with hc | hc
      · subst hc; exact n4 hx
      · subst hc; exact n9 hx
    · exact h.uv x hc hx
  · obtain ⟨q1, q2, q3, q4, q5, q6⟩ := h.hS b hb
    refine ⟨q1, by omega, fun hc => ?_, q4, q5, q6⟩
    rcases hu' b hc with hc | hc
    · exact q3 hc
    · omega
  · rcases List.mem_append.1 hx with hx | hx
    · simp at hx
      rcases hx with hx | hx
      · exact .inr (by rw [hx]; exact h.lbg)
      · exact .inl (by simp [hx])
    · exact .inr (h.own.lt x hx).1
end
/-- What holds at the label. -/
structure MJ (F : Nat) (w0 : World) (B g : Nat) (s : ByteArray) (p0 d : Nat) (v0 : Value) (hs : List Bool) (lb rb : Nat) (R : RM (List PT)) (a : Act) (w : World) : Prop where
  df : a.defers = []
  sz : a.tmps.size = 116
  s1 : a.tmps.getD 1 undef = .pointer (some ⟨rb, 0, none⟩)
  s3 : a.tmps.getD 3 undef = .pointer (some ⟨lb, 0, none⟩)
  s4 : a.tmps.getD 4 undef = .func (.func 66) #[] #[.pointer (some ⟨lb, 0, none⟩), .pointer (some ⟨rb, 0, none⟩)]
  ex : ∃ (p n f : Nat) (l : List PT) (u v : Value) (S : Nat → Prop), MS F w0 B g s p0 d v0 hs lb rb w p n l u v S ∧ f ≤ F ∧ msgF s f d (topB hs) l p n = R

theorem OwnM.more {F B : Nat} {S T : Nat → Prop} {w' : World} {v' : Value} {l : List PT} {vs : List Value} {a : PT} {cv : Value} (hu : vs.length = l.length) (ho : w'.ownsRow B 47 7 v' (l.length + 1) (partC l vs ++ a.cells cv))
    (h : ∀ (i : Nat) (p : PT) (c : Value), l[i]? = some p → vs[i]? = some c → LiesC F S w' c p.cs) (hc : LiesC F T w' cv a.cs) : OwnM F (fun b => S b ∨ T b) w' B v' (l ++ [a]) := by
  refine ⟨vs ++ [cv], by simp [hu], ?_, ?_⟩
  · rw [partC_append _ _ _ _ hu, List.length_append]
    simpa [partC] using ho
  · intro i d qv hj hq
    rcases Nat.lt_or_ge i l.length with hh | hh
    · rw [List.getElem?_append_left hh] at hj
      rw [List.getElem?_append_left (by omega)] at hq
      exact (h i d qv hj hq).mono (fun x hx => .inl hx)
    · rw [List.getElem?_append_right hh] at hj
      rw [List.getElem?_append_right (by omega), hu] at hq
      cases hi : i - l.length with
      | zero => rw [hi] at hj hq; simp at hj hq; subst hj; subst hq; exact hc.mono (fun x hx => .inr hx)
      | succ k => rw [hi] at hj; simp at hj
theorem liesC_form {n : Nat} {S : Nat → Prop} {w : World} {v : Value} {l : List CT} (h : LiesC n S w v l) : ∃ A m c, v = .slice A m c := by
  obtain ⟨_, _, ⟨A, c, rfl, _⟩, _⟩ := h
  exact ⟨_, _, _, rfl⟩
set_option maxRecDepth 100000 in
set_option maxHeartbeats 8000000 in
theorem msg_step (s : ByteArray) (F : Nat) (hIH : ∀ f, f < F → MsgC s f) (hs : s.size ≤ 100000) : MsgC s F := by
  intro w B g p0 n0 d v0 hl hE hBg h hH hp hn hd hld hno hnb
  have HE := Lib.hid hE
  have HR := Lib.hid h
  have HH := Lib.hid hH
  generalize hRR : msgF s F d (topB hl) [] p0 n0 = R at *
  have HRR := Lib.hid hRR
  have hmf : ∀ (fn : Fn) (first cap : Array Value) (w : World), (Instr.makeFunc fn first cap).run Tryz.prog w = .ok (.func fn first cap) w := fun _ _ _ _ => rfl
  clear h hH hE hRR
  go_enter Tryz.func36, Tryz.ntmps36
  go_wp2_with fail
  obtain ⟨rb, hrb⟩ : ∃ rb, w.heap.size = rb := ⟨_, rfl⟩
  rw [hrb]
  refine wp_scope_loop 0 (MJ F w B g s p0 d v0 hl (rb + 1) rb R) (fun _ w => s.size + 1 - rdrAt w g) rfl ?_ ?_
  · rintro ⟨t, df⟩ w1 hJ
    obtain ⟨hdf, hsz, hs1, hs3, hs4, p, n, f, l, u, v, S, hM, hfF, hF⟩ := hJ
    simp only at hdf hsz hs1 hs3 hs4
    subst hdf
    obtain ⟨t, rfl⟩ := frame116 t hsz
    have hu1 : t 1 = .pointer (some ⟨rb, 0, none⟩) := hs1
    have hu3 : t 3 = .pointer (some ⟨rb + 1, 0, none⟩) := hs3
    have hu4 : t 4 = .func (.func 66) #[] #[.pointer (some ⟨rb + 1, 0, none⟩), .pointer (some ⟨rb, 0, none⟩)] := hs4
    clear hs1 hs3 hs4 hsz
    rw [hu1, hu3, hu4]
    clear hu1 hu3 hu4
    obtain ⟨f, rfl⟩ : ∃ f', f = f' + 1 := ⟨f - 1, by
      rcases f with _ | f
      · rw [← hF] at hno; exact absurd rfl hno
      · rfl⟩
    have hE1 : EnvM B w1 := HE.out.below (hM.kp.below (fun x hx => by
      rcases List.mem_cons.1 hx with h | h
      · omega
      · exact (World.ownsRow.lt HH.out x (by simpa using h)).1) HE.out.env.le)
    obtain ⟨c0, c1, c2, c3, c4, f1, f2, f3, f4⟩ := hM.rr.cells
    have r0 : w1.cell? ⟨rb, 0, none⟩ = some (.pointer (some ⟨g, 0, none⟩)) := hM.hr.cell_eq rfl
    have l0 : w1.cell? ⟨rb + 1, 0, none⟩ = some u := hM.hl.cell_eq rfl
    have hps := hM.ps
    have HM := Lib.hid hM
    have HF := Lib.hid hF
    have HE1 := Lib.hid hE1
    have hgl := hM.rr.lt
    clear hM hF hE1
    by_cases hend : p = s.size ∨ byt s p = 125
    · have hRe : RM.ok l p n = R := by rw [← HF.out, msgF_end hend]
      have fin : ∀ W k, W = w1.drewN k → MPost F w B g s p0 d v0 hl R (.returned u) W := fun W k hW => by
        subst hW
        rw [← hRe]
        have hk : Keep [] w1 (w1.drewN k) := (Keep.refl _ _).drewN _
        refine ⟨u, v, fun x => S x ∨ x ∈ u.ownBlock.toList, rfl, (HM.out.own.lies (fun x hx => .inl hx) (fun x hx => .inr hx)).keep hk (by simp), fun b hb => ?_, HM.out.rr.drewN _, HM.out.hh.keep hk (by simp), HM.out.hv, HM.out.kp.drewN _, HM.out.p0p, HM.out.ps, HM.out.n1⟩
        rcases hb with hb | hb
        · obtain ⟨h1, h2, h3, h4, _⟩ := HM.out.hS b hb
          exact ⟨h1, h2, h4⟩
        · obtain ⟨h1, h2⟩ := HM.out.own.lt b hb
          obtain ⟨_, _, hw2, _⟩ := HM.out.own
          exact ⟨h1, h2, fun hc => own_own_ne hw2 HM.out.hh (by decide) b hb hc⟩
      have HFIN := Lib.hid fin
      clear fin hRe
      by_cases hpe : p = s.size
      · have e1 : ((p : Int) == (s.size : Int)) = true := by simp; omega
        have e2 : (p == s.size) = true := by simpa using hpe
        clear hend hpe
        go_wp2
        go_quiet (fail)
        go_wp2
        simp only [Exit.jump]

        go_ret
        exact HFIN.out _ _ rfl
      · have h125 : byt s p = 125 := by omega
        have T1 : Hid ((byt s p == 125) = true) := by unfold Hid; rw [h125]; rfl
        have e1 : ((p : Int) == (s.size : Int)) = false := by simp; omega
        have e2 : (p == s.size) = false := by simpa using hpe
        clear hend hpe h125
        go_wp2
        go_quiet ((go_at_call 68; exact Calls.quiet_of (on_is g s p n d v w1 125 true HM.out.rr (by omega) T1.out _)))
        go_wp2
        simp only [Exit.jump]
        go_ret
        exact HFIN.out _ _ rfl
    · have hlt : p < s.size := by omega
      have h125 : byt s p ≠ 125 := fun h => hend (.inr h)
      have T1 : Hid ((byt s p == 125) = false) := by unfold Hid; simpa using h125
      have e1 : ((p : Int) == (s.size : Int)) = false := by simp; omega
      have e2 : (p == s.size) = false := by simp; omega
      clear hend
      go_wp2
      go_quiet ((go_at_call 68; exact Calls.quiet_of (on_is g s p n d v w1 125 false HM.out.rr (by omega) T1.out _)))
      have HM2 := Lib.hid (HM.out.draw nq)
      have HE2 := Lib.hid (HE1.out.drewN nq)
      have HMU : Hid (rdrAt w1 g = p) := HM.out.rr.at_
      generalize w1.drewN nq = w2 at *
      clear c0 c1 c2 c3 c4 f1 f2 f3 f4 r0 l0 hgl HM HE1 T1 e1 e2
      obtain ⟨c0, c1, c2, c3, c4, f1, r0, l0, z0⟩ := HM2.out.cells
      have hgl : g < w.heap.size := HR.out.lt
      by_cases h123 : byt s p = 123
      · have HF2 := Lib.hid (HF.out.symm.trans (msgF_arg h123))
        have O1 : Hid ((byt s p == 123) = true) := by unfold Hid; rw [h123]; rfl
        clear h123 h125 HF
        have hn4 : n < 1024 := by
          rcases Nat.lt_or_ge n 1024 with h | h
          · exact h
          · have hn4 : n = 1024 := by have := HM2.out.n1; omega
            rw [if_pos hn4] at HF2
            exact absurd HF2.out (hnb _ _)
        have HF3 : Hid ((argS s (fun h' => msgF s f (d + 1) h' []) f p (n + 1) d).then (fun a q n2 => msgF s f d (topB hl) (l ++ [a]) q n2) = R) := by have := HF2.out; rw [if_neg (by omega)] at this; exact this.symm
        clear HF2
        obtain ⟨x, hx⟩ : ∃ x, argS s (fun h' => msgF s f (d + 1) h' []) f p (n + 1) d = x := ⟨_, rfl⟩
        rw [hx] at HF3
        cases x with
        | out => exact absurd HF3.out (fun h => hno h.symm)
        | bad e q => exact absurd HF3.out (fun h => hnb _ _ h.symm)
        | ok a q n2 =>
          have HX := Lib.hid hx
          clear hx
          go_upto_region 10 with (first | (go_at_call 68; refine (on_any w2 g s p n d v 123 HM2.out.rr (by omega)).mono ?_; rintro x w3 ⟨rfl, k, rfl⟩; rw [O1.out]) | (go_at_call 67; refine (count_yes _ g s p n d v p (HM2.out.rr.drewN _) hn4).mono ?_; rintro x w4 ⟨rfl, hR4, hk4⟩))
          have hM4 : MS F w B g s p0 d v0 hl (rb + 1) rb w4 p (n + 1) l u v S := (HM2.out.draw k).step hgl (hk4.mono (fun x hx => .inl (by simp at hx; simp [hx]))) hR4 ((HM2.out.draw k).hh.keep hk4 (fun x hx hc => by simp at hc; subst hc; exact HM2.out.lbn.2.2.2.2.2.2.2.2 hx)) (fun b hb => .inl hb) (Nat.le_refl _) (by omega) (by omega)
          have hE4 : EnvM B w4 := (HE2.out.drewN k).keep hk4 (fun x hx => by simp at hx; omega)
          clear c0 c1 c2 c3 c4 f1 r0 l0 z0
          obtain ⟨c0, c1, c2, c3, c4, f1, r0, l0, z0⟩ := hM4.cells
          have HARG : Hid (∀ W, Keep [] w4 W → Calls Tryz.prog 69 #[.pointer (some ⟨g, 0, none⟩)] W (APost f W B g s p d v hl (.ok a q n2))) := fun W hW =>
            arg_any s (hIH f (by omega)) (by omega) W g p (n + 1) d v hl (hE4.keep hW (by simp)) hBg (hM4.rr.keep hW (by simp)) (hM4.hh.keep hW (by simp)) hlt (by omega) hd hld a q n2 HX.out
          have HM4 := Lib.hid hM4
          have HK4 := Lib.hid hk4
          clear hM4 hR4 hk4 hE4
          obtain ⟨ip, hip, ip0, ip1, ip2⟩ := info_parts infoPart
          have HIP := Lib.hid hip
          have HIP0 := Lib.hid ip0
          have HIP1 := Lib.hid ip1
          have HIP2 := Lib.hid ip2
          clear hip ip0 ip1 ip2
          have HLU : Hid (some (rb + 1) ≠ u.ownBlock) := fun hc => HM4.out.lbn.2.2.2.2.2.1 (by rw [← hc]; simp)
          have hll4 : l.length ≤ 100000 := by have := HM4.out.ll; omega
          have hB4 : w.heap.size ≤ w4.heap.size := HM4.out.kp.size
          go_region_law (first | (refine step_append_lies _ (by rfl) _ _ _ (by rfl) w.heap.size 47 ip _ 7 104 Tryz.underlying22 HIP.out HIP0.out HIP1.out HIP2.out rfl (by omega) u l.length (partC l vs5) (by rfl) (World.ownsRow.alloc HOW5.out _) ⟨w5.heap.size, 0, none⟩ 1 1 [.int .i64 a.k, .string a.tx, .string a.nm, .string a.ty, .string a.st, .int .i64 a.off, .slice Ac mc kc] (by rfl) (by rfl) (World.news_of_block (cs := #[.int .i64 a.k, .string a.tx, .string a.nm, .string a.ty, .string a.st, .int .i64 a.off, .slice Ac mc kc]) (t := 47) (fr := (0, 0)) (heap_alloc_new w5 _)) (by simp [Value.oneCell']) (by omega) (by unfold maxLen; omega) (by omega) (by simp; omega) (w5.heap.size + 1) (by simp) ?_; intro gg cap6 w6 hown6 hgrow hat6 hlt6; have hl6 : Blk w6 (rb + 1) 22 #[u] := Blk.grown (Blk.alloc HM5.out.hl _) hgrow HLU.out; have l6 := hl6.cell_eq (i := 0) rfl; have z6 := hl6.frozen 0; have HL6 := Lib.hid hl6; clear hl6) | (go_simp; go_at_call 69; refine (HARG.out _ (by repeat (first | exact Keep.refl _ _ | refine Keep.drew ?_ | refine Keep.alloc ?_ _))).mono ?_; rintro x w5 ⟨cv, v5, S5, rfl, hL5, hc5, hS5, hR5, hH5, hV5, hK5, hpq, hq5, hn5, hat⟩; have hM5 : MS F w B g s p0 d v0 hl (rb + 1) rb w5 q n2 l u v5 S := (HM4.out.draw 1).step hgl hK5 hR5 hH5 hV5 (by omega) hq5 hn5; obtain ⟨d0, d1, d2, d3, d4, g1, r5, l5, z5⟩ := hM5.cells; have hlb5 : rb + 1 < w5.heap.size := hM5.hl.lt; have HM5 := Lib.hid hM5; clear hM5; obtain ⟨Ac, mc, kc, rfl⟩ := liesC_form hL5; obtain ⟨vs5, hvl5, how5, hcl5⟩ := HM5.out.own; have HOW5 := Lib.hid how5; have HCL5 := Lib.hid hcl5; have HVL5 := Lib.hid hvl5; have HL5 := Lib.hid hL5; have HS5 := Lib.hid hS5; have HK5 := Lib.hid hK5; have hz5 : w4.heap.size ≤ w5.heap.size := hK5.size; clear how5 hcl5 hvl5 hL5 hS5 hK5; rw [show (a.cells (.slice Ac mc kc)).toArray = #[.int .i64 a.k, .string a.tx, .string a.nm, .string a.ty, .string a.st, .int .i64 a.off, .slice Ac mc kc] from rfl]))
          all_goals
            have hk56 : Keep u.ownBlock.toList w5 w6 := ((Keep.refl _ w5).alloc _).grown hgrow fun k hk => .inl (by simpa using hk)
            have hks : ∀ y : Value, Keep [rb + 1] w6 (w6.setCell ⟨rb + 1, 0, none⟩ y) := fun y => (Keep.refl _ _).setCell (.inl (by simp)) _
            have hng : rb + 1 ≠ gg := by
              intro hc
              subst hc
              rcases hat6 with h | h
              · exact HLU.out h.symm
              · omega
            have hkw : Keep ((rb + 1) :: u.ownBlock.toList) w5 (w6.setCell ⟨rb + 1, 0, none⟩ (.slice (some ⟨gg, 0, none⟩) (l.length + 1) cap6)) := (hk56.mono (fun x hx => .inl (List.mem_cons_of_mem _ hx))).same ((hks _).mono (fun x hx => .inl (by simp at hx; simp [hx])))
            have hMW : MS F w B g s p0 d v0 hl (rb + 1) rb (w6.setCell ⟨rb + 1, 0, none⟩ (.slice (some ⟨gg, 0, none⟩) (l.length + 1) cap6)) q n2 (l ++ [a]) (.slice (some ⟨gg, 0, none⟩) (l.length + 1) cap6) v5 (fun b => S b ∨ S5 b) := by
              have hnlb : ∀ x, S x ∨ S5 x → w.heap.size ≤ x ∧ x < w5.heap.size ∧ x ∉ u.ownBlock.toList ∧ x ∉ v5.ownBlock.toList ∧ x ≠ rb + 1 ∧ x ≠ rb := fun x hx => by
                rcases hx with hx | hx
                · exact HM5.out.hS x hx
                · obtain ⟨h1, h2, h3⟩ := HS5.out x hx
                  have h1' : w4.heap.size ≤ x := h1
                  have := HM4.out.hl.lt
                  exact ⟨by omega, h2, fun hc => by have := (HM4.out.own.lt x hc).2; omega, h3, by omega, by omega⟩
              refine HM5.out.push hkw (Blk.set_ HL6.out 0 _) (OwnM.more (T := S5) HVL5.out (ownsRow_keep hown6 (hks _) (fun x hx hc => by simp [Value.ownBlock] at hx hc; omega)) (fun i p c hp hc => ?_) ?_) (fun b hb => ?_) (by have := HM4.out.ll; simp; omega) (fun c hc => ?_)
              · exact (HCL5.out i p c hp hc).keep hkw (fun x hx hc => by
                  rcases List.mem_cons.1 hx with h | h
                  · exact (hnlb x (.inl hc)).2.2.2.2.1 h
                  · exact (hnlb x (.inl hc)).2.2.1 h)
              · exact (HL5.out.le (by omega)).keep hkw (fun x hx hc => by
                  rcases List.mem_cons.1 hx with h | h
                  · exact (hnlb x (.inr hc)).2.2.2.2.1 h
                  · exact (hnlb x (.inr hc)).2.2.1 h)
              · obtain ⟨h1, h2, h3, h4, h5, h6⟩ := hnlb b hb
                have hz6 := hkw.size
                refine ⟨h1, by omega, fun hc => ?_, h4, h5, h6⟩
                simp [Value.ownBlock] at hc
                subst hc
                rcases hat6 with h | h
                · exact h3 (by simp [h])
                · omega
              · rcases List.mem_append.1 hc with hc | hc
                · have := HM4.out.tx c hc; omega
                · simp at hc; subst hc; omega
            have hμ : rdrAt (w6.setCell ⟨rb + 1, 0, none⟩ (.slice (some ⟨gg, 0, none⟩) (l.length + 1) cap6)) g = q := hMW.rr.at_
            have HMW := Lib.hid hMW
            clear hMW hkw hks
            go_wp2_with fail
            go_step3
            exact ⟨rfl, ⟨rfl, rfl, rfl, rfl, rfl, q, n2, f, l ++ [a], _, v5, _, HMW.out, by omega, HF3.out⟩, by rw [hμ, HMU.out]; omega⟩
      · have O1 : Hid ((byt s p == 123) = false) := by unfold Hid; simpa using h123
        have hH1 : hl.length ≤ 1000000 := by omega
        by_cases hh : byt s p = 35 ∧ topB hl = true
        · obtain ⟨h35, htop⟩ := hh
          have HF2 := Lib.hid (HF.out.symm.trans (msgF_hash h35 htop))
          have O2 : Hid ((byt s p == 35) = true) := by unfold Hid; rw [h35]; rfl
          have HT := Lib.hid htop
          have hn4 : n < 1024 := by
            rcases Nat.lt_or_ge n 1024 with h | h
            · exact h
            · have hn4 : n = 1024 := by have := HM2.out.n1; omega
              rw [if_pos hn4] at HF2
              exact absurd HF2.out (hnb _ _)
          have HF3 : Hid (msgF s f d (topB hl) (l ++ [hashP]) (p + 1) (n + 1) = R) := by have := HF2.out; rw [if_neg (by omega)] at this; exact this.symm
          clear HF2 htop h35 h125 h123 HF
          go_wp2_with (first | (go_at_call_of 68 (Value.int .u8 123); refine (on_any _ g s p n d v 123 (by exact HM2.out.rr) (by omega)).mono ?_; rintro x w3 ⟨rfl, k, rfl⟩; rw [O1.out]) | (go_at_call_of 68 (Value.int .u8 35); refine (on_any _ g s p n d v 35 (by exact HM2.out.rr) (by omega)).mono ?_; rintro x w3 ⟨rfl, k2, rfl⟩; rw [O2.out]) | (go_at_call 70; refine (inPl_any (B := B) _ g s p n d v hl (by exact HM2.out.rr) (by exact HM2.out.hh) hH1).mono ?_; rintro x w3 ⟨rfl, k3, rfl⟩; rw [HT.out]) | (go_at_call 67; refine (count_yes _ g s p n d v p (by exact HM2.out.rr) hn4).mono ?_; rintro x w4 ⟨rfl, hR4, hk4⟩; have hM4 : MS F w B g s p0 d v0 hl (rb + 1) rb w4 p (n + 1) l u v S := HM2.out.step hgl ((Keep.undraw hk4).mono (fun x hx => .inl (by simp at hx; simp [hx]))) hR4 (HM2.out.hh.keep (Keep.undraw hk4) (fun x hx hc => (by simp at hc; subst hc; exact HM2.out.lbn.2.2.2.2.2.2.2.2 hx))) (fun b hb => .inl hb) (Nat.le_refl _) (by omega) (by omega); obtain ⟨d0, d1, d2, d3, d4, f2, r4, l4, z4⟩ := hM4.cells; have HM4 := Lib.hid hM4; clear hM4 hR4 hk4) | (at_builtin; refine wpList_append_part (v := u) (l := l) rfl _ _ rfl rfl HM4.out.own _ rfl hashP (.slice none 0 0) rfl rfl (LiesC.nil _ _ _) (fun x hx => ⟨(HM4.out.hS x hx).2.1, (HM4.out.hS x hx).2.2.1⟩) (by have := HM4.out.ll; omega) HM4.out.kp.size ?_; intro g2 cap2 w6 q1 q2 q3 q4; have hl6 := HM4.out.hl.keep q2 HM4.out.lbn.2.2.2.2.2.1; have hr6 := HM4.out.hr.keep q2 HM4.out.lbn.2.2.2.2.2.2.1; have hR6 := HM4.out.rr.keep q2 HM4.out.lbn.2.2.2.2.2.2.2.1; obtain ⟨e0, e1, e2, e3, e4, f6, _, _, _⟩ := hR6.cells; have l6 := hl6.cell_eq (i := 0) rfl; have r6 := hr6.cell_eq (i := 0) rfl; have z6 := hl6.frozen 0; have HL6 := Lib.hid hl6; have HR6 := Lib.hid hR6; have Q1 := Lib.hid q1; have Q2 := Lib.hid q2; have Q3 := Lib.hid q3; clear hl6 hr6 hR6 q1 q2 q3))
          have hks : ∀ y : Value, Keep [rb + 1] w6 (w6.setCell ⟨rb + 1, 0, none⟩ y) := fun y => (Keep.refl _ _).setCell (.inl (by simp)) _
          have hng : rb + 1 ≠ g2 := ownM_ne Q1.out HL6.out (by decide) |> fun h => by simpa [Value.ownBlock] using h
          have hz46 := Q2.out.size
          have hMW : MS F w B g s p0 d v0 hl (rb + 1) rb ((w6.setCell ⟨rb + 1, 0, none⟩ (.slice (some ⟨g2, 0, none⟩) (l.length + 1) cap2)).setCell ⟨g, 1, none⟩ (.int .i64 ((p : Int) + 1))) (p + 1) (n + 1) (l ++ [hashP]) (.slice (some ⟨g2, 0, none⟩) (l.length + 1) cap2) v S := by
            refine HM4.out.put (w' := w6.setCell ⟨rb + 1, 0, none⟩ (.slice (some ⟨g2, 0, none⟩) (l.length + 1) cap2)) hgl ((Q2.out.mono (fun x hx => .inl (by simp at hx ⊢; exact .inr (.inr hx)))).same ((hks _).mono (fun x hx => .inl (by simp at hx; simp [hx])))) (Blk.set_ HL6.out 0 _) (Q1.out.keep (hks _) (fun x hx hc => by simp at hx; exact (HM4.out.hS x hc).2.2.2.2.1 hx) (fun x hx hc => by simp [Value.ownBlock] at hx hc; omega)) (fun b hb => ?_) ((Keep.refl _ _).setCell (.inl (by simp)) _) ((HR6.out.keep (hks _) (by have := HM4.out.lbn.1; simp; omega)).setAt (p + 1) _ (by omega)) (by omega) (by omega) (by omega) (by have := HM4.out.ll; simp; omega) (fun c hc => ?_)
            · simp [Value.ownBlock] at hb
              subst hb
              rcases Q3.out with h | h
              · exact .inl (by simp [h])
              · exact .inr (by omega)
            · rcases List.mem_append.1 hc with hc | hc
              · have := HM4.out.tx c hc; omega
              · simp at hc; subst hc; show (0 : Nat) ≤ _; omega
          have hμ := hMW.rr.at_
          have HMW := Lib.hid hMW
          clear hMW hks
          go_step3
          exact ⟨rfl, ⟨rfl, rfl, rfl, rfl, rfl, p + 1, n + 1, f, l ++ [hashP], _, v, _, HMW.out, by omega, HF3.out⟩, by rw [hμ, HMU.out]; omega⟩
        · go_upto_region 11 with (go_at_call_of 68 (Value.int .u8 123); refine (on_any _ g s p n d v 123 (by exact HM2.out.rr) (by omega)).mono ?_; rintro x w3 ⟨rfl, k, rfl⟩; rw [O1.out])
          go_cut [62] (fun u W => u = .bool false ∧ ∃ k, W = w2.drewN k)
          case first =>
            by_cases h35 : byt s p = 35
            · have HT : Hid (topB hl = false) := by unfold Hid; cases h : topB hl with | false => rfl | true => exact absurd ⟨h35, h⟩ hh
              have O2 : Hid ((byt s p == 35) = true) := by unfold Hid; rw [h35]; rfl
              clear hh h35 h125 h123
              go_wp2_with (first | (go_at_call_of 68 (Value.int .u8 35); refine (on_any _ g s p n d v 35 (by exact HM2.out.rr) (by omega)).mono ?_; rintro x w3 ⟨rfl, k2, rfl⟩; rw [O2.out]) | (go_at_call 70; refine (inPl_any (B := B) _ g s p n d v hl (by exact HM2.out.rr) (by exact HM2.out.hh) hH1).mono ?_; rintro x w3 ⟨rfl, k3, rfl⟩; rw [HT.out]))
              go_meet
              exact ⟨rfl, _, rfl⟩
            · have O2 : Hid ((byt s p == 35) = false) := by unfold Hid; simpa using h35
              clear hh h35 h125 h123
              go_wp2_with (go_at_call_of 68 (Value.int .u8 35); refine (on_any _ g s p n d v 35 (by exact HM2.out.rr) (by omega)).mono ?_; rintro x w3 ⟨rfl, k2, rfl⟩; rw [O2.out])
              go_meet
              exact ⟨rfl, _, rfl⟩
          case rest =>
            obtain ⟨rfl, k, rfl⟩ := hcut
            obtain ⟨lf, qf, nf, hRe⟩ : ∃ lf qf nf, R = .ok lf qf nf := by
              cases hRc : R with
              | out => exact absurd hRc hno
              | bad e q => exact absurd hRc (hnb e q)
              | ok lf qf nf => exact ⟨lf, qf, nf, rfl⟩
            have HRe := Lib.hid hRe
            clear hRe c0 c1 c2 c3 c4 f1 r0 l0 z0
            have HM3 := Lib.hid (HM2.out.draw k)
            have HE3 := Lib.hid (HE2.out.drewN k)
            generalize w2.drewN k = w3 at *
            clear HM2 HE2 O1
            obtain ⟨c0, c1, c2, c3, c4, f1, r0, l0, z0⟩ := HM3.out.cells
            obtain ⟨tp, htp⟩ : ∃ tp : Bool, Lib.hasPrefix (s.extract p s.size).data.toList [39, 39] = tp := ⟨_, rfl⟩
            go_upto_region 15 with fail
            go_cut [83] (fun u W => u = .bool tp ∧ ∃ k, W = w3.drewN k)
            case first =>
              have hq1 : (p : Int) ≤ s.size := by omega
              have HP5 : Hid (∀ W, Calls Tryz.prog 71 #[.string (s.extract p s.size), .string ⟨#[39, 39]⟩] W fun e w' => e = .returned (.bool tp) ∧ w' = W) := fun W => (Tryz.strings_HasPrefix _ _ W).mono fun e w' ⟨h1, h2⟩ => ⟨by rw [h1, ← htp], h2⟩
              clear htp
              go_quiet ((go_at_call 71; exact Calls.quiet_of_same (HP5.out _)))
              go_wp2_with fail
              go_meet
              exact ⟨rfl, _, rfl⟩
            case rest =>
              obtain ⟨rfl, k2, rfl⟩ := hcut
              have HM4 := Lib.hid (HM3.out.draw k2)
              have HE4 := Lib.hid (HE3.out.drewN k2)
              clear c0 c1 c2 c3 c4 f1 r0 l0 z0
              generalize w3.drewN k2 = w4 at *
              clear HM3 HE3
              obtain ⟨c0, c1, c2, c3, c4, f1, r0, l0, z0⟩ := HM4.out.cells
              have HPUT : Hid (∀ (t : ByteArray) W (p' : Nat) , t.size ≤ 100000 → MS F w B g s p0 d v0 hl (rb + 1) rb W p' n l u v S → Calls Tryz.prog 66 #[.string t, .int .i64 p, .pointer (some ⟨rb + 1, 0, none⟩), .pointer (some ⟨rb, 0, none⟩)] W (PutPost F S W w.heap.size (rb + 1) g s p' d u v (putS l t p n))) := fun t W p' ht hW =>
                put_any W (rb + 1) rb g s p' n d u v l t p hW.hl hW.hr hW.rr hW.own (by have := hW.ll; have := hW.ps; omega) (fun x hx => ⟨(hW.hS x hx).2.1, fun hc => by subst hc; have := (hW.hS x hx).1; omega, (hW.hS x hx).2.2.1, (hW.hS x hx).2.2.2.2.1⟩) hW.kp.size hW.n1 (fun a ha => by have := hW.tx a ha; have := hW.ps; omega) (by omega)
              cases htp2 : tp with
              | true =>
                subst htp2
                obtain ⟨h39, h39b⟩ := two_len.1 htp
                have hF2 := HF.out.symm.trans (msgF_two h39 h39b)
                rw [HRe.out] at hF2
                obtain ⟨l2, o2, n2, hput, hrest⟩ := rm_then hF2.symm
                have hp2 : p + 2 ≤ s.size := by have := byt_lt (s := s) (p := p + 1) (by omega); omega
                rw [← HRe.out] at hrest
                have hpo := putS_ok hput HM4.out.tx HM4.out.n1
                have HPO := Lib.hid hpo
                have HF3 := Lib.hid hrest
                have HP4 := Lib.hid (HPUT.out ⟨#[39]⟩ w4 p (by decide) HM4.out)
                rw [hput] at HP4
                clear hF2 hput hrest hpo htp h39 h39b HF h125 h123 hh HPUT
                go_wp2_with fail
                refine HP4.out.mono ?_
                rintro x w5 ⟨rfl, u5, hl5, hR5, ho5, hu5, hk5⟩
                obtain ⟨d0, d1, d2, d3, d4, f5, _⟩ := hR5.cells
                have r5 := (HM4.out.hr.keep hk5 (by have := HM4.out.lbn; simp; exact ⟨this.2.2.1, by simpa using this.2.2.2.2.2.2.1⟩)).cell_eq (i := 0) rfl
                have HL5 := Lib.hid hl5
                have HR5 := Lib.hid hR5
                have HO5 := Lib.hid ho5
                have HU5 := Lib.hid hu5
                have HK5 := Lib.hid hk5
                clear hl5 hR5 ho5 hu5 hk5 HP4
                go_wp2_with fail
                have hMW : MS F w B g s p0 d v0 hl (rb + 1) rb (w5.setCell ⟨g, 1, none⟩ (.int .i64 ((p : Int) + 2))) (p + 2) n2 l2 u5 v S :=
                  HM4.out.put hgl HK5.out HL5.out HO5.out HU5.out ((Keep.refl _ _).setCell (.inl (by simp)) _) (HR5.out.setAt (p + 2) _ (by omega)) (by omega) hp2 HPO.out.2.2 (by have := HPO.out.1; have := HM4.out.ll; omega) (fun c hc => by have := HPO.out.2.1 c hc; have h1 : (⟨#[39]⟩ : ByteArray).size = 1 := rfl; omega)
                have hμ := hMW.rr.at_
                have HMW := Lib.hid hMW
                clear hMW
                go_step3
                exact ⟨rfl, ⟨rfl, rfl, rfl, rfl, rfl, p + 2, n2, f, l2, u5, v, S, HMW.out, by omega, HF3.out⟩, by rw [hμ, HMU.out]; omega⟩
              | false =>
                subst htp2
                have htwo : ¬ (byt s p = 39 ∧ byt s (p + 1) = 39) := fun h => by rw [two_len.2 h] at htp; cases htp
                clear htp
                obtain ⟨qb, hqb⟩ : ∃ qb : Bool, (byt s p == 39 && quotB s (topB hl) p) = qb := ⟨_, rfl⟩
                have HQB := Lib.hid hqb
                have HTW := Lib.hid htwo
                have HHH := Lib.hid hh
                have H125 := Lib.hid h125
                have H123 := Lib.hid h123
                clear hqb htwo hh h125 h123
                go_upto_region 18 with fail
                go_cut [104] (fun u W => u = .bool qb ∧ ∃ k, W = w4.drewN k)
                case first =>
                  by_cases h39 : byt s p = 39
                  · have O3 : Hid ((byt s p == 39) = true) := by unfold Hid; rw [h39]; rfl
                    have HQ2 : Hid (quotB s (topB hl) p = qb) := by unfold Hid; rw [← HQB.out, O3.out, Bool.true_and]
                    clear h39
                    go_wp2_with (first | (go_at_call 68; refine (on_any _ g s p n d v 39 (by exact HM4.out.rr) (by omega)).mono ?_; rintro x w5 ⟨rfl, k3, rfl⟩; rw [O3.out]) | (go_at_call 72; refine (quotes_any (B := B) _ g s p n d v hl (by exact HM4.out.rr) (by exact HM4.out.hh) hH1 hlt (by omega)).mono ?_; rintro x w5 ⟨rfl, k4, rfl⟩; rw [HQ2.out]))
                    go_meet
                    exact ⟨rfl, _, rfl⟩
                  · have O3 : Hid ((byt s p == 39) = false) := by unfold Hid; simpa using h39
                    have HQ2 : Hid (qb = false) := by unfold Hid; rw [← HQB.out, O3.out, Bool.false_and]
                    clear h39
                    go_wp2_with (go_at_call 68; refine (on_any _ g s p n d v 39 (by exact HM4.out.rr) (by omega)).mono ?_; rintro x w5 ⟨rfl, k3, rfl⟩; rw [O3.out])
                    go_meet
                    exact ⟨by rw [HQ2.out], _, rfl⟩
                case rest =>
                  obtain ⟨rfl, k3, rfl⟩ := hcut
                  have HM5 := Lib.hid (HM4.out.draw k3)
                  have HE5 := Lib.hid (HE4.out.drewN k3)
                  clear c0 c1 c2 c3 c4 f1 r0 l0 z0
                  generalize w4.drewN k3 = w5 at *
                  clear HM4 HE4
                  obtain ⟨c0, c1, c2, c3, c4, f1, r0, l0, z0⟩ := HM5.out.cells
                  cases qb with
                  | true =>
                    have hq2 := HQB.out
                    rw [Bool.and_eq_true, beq_iff_eq] at hq2
                    obtain ⟨h39, hqt⟩ := hq2
                    have hF2 := HF.out.symm.trans (msgF_quot h39 (fun h => HTW.out ⟨h39, h⟩) hqt)
                    rw [HRe.out] at hF2
                    obtain ⟨tt, q, hqs, hr1⟩ := rr_then hF2.symm
                    obtain ⟨l2, o2, n2, hput, hrest⟩ := rm_then hr1
                    have hqg := quotS_ge hqs
                    rw [← HRe.out] at hrest
                    have hts : (⟨tt.toArray⟩ : ByteArray).size = tt.length := by show tt.toArray.size = _; simp
                    have hpo := putS_ok hput HM5.out.tx HM5.out.n1
                    rw [hts] at hpo
                    have HPO := Lib.hid hpo
                    have HF3 := Lib.hid hrest
                    have HQ := Lib.hid (rquoted_any w5 g s p n d v HM5.out.rr hlt (by omega))
                    rw [hqs] at HQ
                    have HP4 := fun W hW => Lib.hid (HPUT.out ⟨tt.toArray⟩ W q (by rw [hts]; omega) hW)
                    rw [hput] at HP4
                    clear hF2 hput hrest hpo HF hqs hr1 h39 hqt HPUT HQB HTW HHH H125 H123 hts
                    go_wp2_with fail
                    refine HQ.out.mono ?_
                    rintro x w6 ⟨rfl, hR6, hk6⟩
                    have hM6 : MS F w B g s p0 d v0 hl (rb + 1) rb w6 q n l u v S := HM5.out.step hgl (hk6.mono (fun x hx => .inl (by simp at hx; simp [hx]))) hR6 (HM5.out.hh.keep hk6 (fun x hx hc => by simp at hc; subst hc; exact HM5.out.lbn.2.2.2.2.2.2.2.2 hx)) (fun b hb => .inl hb) (by omega) (by omega) HM5.out.n1
                    have HM6 := Lib.hid hM6
                    clear c0 c1 c2 c3 c4 f1 r0 l0 z0 hM6 hR6 hk6 HQ
                    obtain ⟨c0, c1, c2, c3, c4, f1, r0, l0, z0⟩ := HM6.out.cells
                    go_wp2_with fail
                    refine (HP4 w6 HM6.out).out.mono ?_
                    rintro x w7 ⟨rfl, u7, hl7, hR7, ho7, hu7, hk7⟩
                    go_wp2_with fail
                    have hMW : MS F w B g s p0 d v0 hl (rb + 1) rb w7 q n2 l2 u7 v S :=
                      HM6.out.put hgl hk7 hl7 ho7 hu7 (Keep.refl _ _) hR7 (Nat.le_refl _) (by omega) HPO.out.2.2 (by have := HPO.out.1; have := HM5.out.ll; omega) (fun c hc => by have := HPO.out.2.1 c hc; omega)
                    have hμ := hMW.rr.at_
                    have HMW := Lib.hid hMW
                    clear hMW hl7 hR7 ho7 hu7 hk7
                    go_step3
                    exact ⟨rfl, ⟨rfl, rfl, rfl, rfl, rfl, q, n2, f, l2, u7, v, S, HMW.out, by omega, HF3.out⟩, by rw [hμ, HMU.out]; omega⟩
                  | false =>
                    have hq2 : ¬ (byt s p = 39 ∧ quotB s (topB hl) p = true) := fun h => by
                      have := HQB.out
                      rw [h.1, h.2] at this
                      cases this
                    have hF2 := HF.out.symm.trans (msgF_byte hlt H125.out H123.out HHH.out HTW.out hq2)
                    rw [HRe.out] at hF2
                    obtain ⟨l2, o2, n2, hput, hrest⟩ := rm_then hF2.symm
                    rw [← HRe.out] at hrest
                    have hts : (s.extract p (p + 1)).size = 1 := by rw [ByteArray.size_extract]; omega
                    have hpo := putS_ok hput HM5.out.tx HM5.out.n1
                    rw [hts] at hpo
                    have HPO := Lib.hid hpo
                    have HF3 := Lib.hid hrest
                    have HP4 := fun W hW => Lib.hid (HPUT.out (s.extract p (p + 1)) W p (by rw [hts]; omega) hW)
                    rw [hput] at HP4
                    clear hF2 hput hrest hpo HF HPUT HQB HTW HHH H125 H123 hts hq2
                    have s1 : IntKind.i64.wrap ((p : Int) + 1) = (p : Int) + 1 := IntWalk.i64_in _ (by omega)
                    have s2 : (0 : Int) ≤ (p : Int) + 1 := by omega
                    have s3 : ((p : Int) + 1).toNat = p + 1 := by omega
                    have s4 : (p : Int) ≤ (p : Int) + 1 := by omega
                    have s5 : (p : Int) + 1 ≤ s.size := by omega
                    have s6 : p + 1 ≤ s.size := by omega
                    go_wp2
                    refine region_tail 16 (by kernel_rfl) (by kernel_rfl) ?_
                    simp only [List.take_succ_cons, List.take_zero, List.drop_succ_cons, List.drop_zero]
                    repeat still_step
                    refine wpStill_nil ?_
                    clear s1 s2 s3 s4 s5
                    go_wp2_with fail
                    refine (HP4 w5.drew (by exact HM5.out.draw 1)).out.mono ?_
                    rintro x w7 ⟨rfl, u7, hl7, hR7, ho7, hu7, hk7⟩
                    obtain ⟨d0, d1, d2, d3, d4, f5, _⟩ := hR7.cells
                    have r5 := (HM5.out.hr.keep (by exact Keep.undraw (k := 1) hk7) (by have := HM5.out.lbn; simp; exact ⟨this.2.2.1, by simpa using this.2.2.2.2.2.2.1⟩)).cell_eq (i := 0) rfl
                    have HL5 := Lib.hid hl7
                    have HR5 := Lib.hid hR7
                    have HO5 := Lib.hid ho7
                    have HU5 := Lib.hid hu7
                    have HK5 : Hid (Keep ([rb + 1, g] ++ u.ownBlock.toList) w5 w7) := Keep.undraw (k := 1) hk7
                    clear hl7 hR7 ho7 hu7 hk7 HP4
                    go_wp2_with fail
                    have hMW : MS F w B g s p0 d v0 hl (rb + 1) rb (w7.setCell ⟨g, 1, none⟩ (.int .i64 ((p : Int) + 1))) (p + 1) n2 l2 u7 v S :=
                      HM5.out.put hgl HK5.out HL5.out HO5.out HU5.out ((Keep.refl _ _).setCell (.inl (by simp)) _) (HR5.out.setAt (p + 1) _ (by omega)) (by omega) (by omega) HPO.out.2.2 (by have := HPO.out.1; have := HM5.out.ll; omega) (fun c hc => by have := HPO.out.2.1 c hc; omega)
                    have hμ := hMW.rr.at_
                    have HMW := Lib.hid hMW
                    clear hMW
                    go_step3
                    exact ⟨rfl, ⟨rfl, rfl, rfl, rfl, rfl, p + 1, n2, f, l2, u7, v, S, HMW.out, by omega, HF3.out⟩, by rw [hμ, HMU.out]; omega⟩
  · intro hfst
    go_wp2
    go_step3
    rename_i K hK
    refine hK _ _ (hfst.out _ _ ?_)
    refine ⟨rfl, rfl, rfl, rfl, rfl, p0, n0, F, [], .slice none 0 0, v0, fun _ => False, ⟨Blk.new' _ _ _ _ (by simp [hrb]), (Blk.new' _ _ _ _ hrb).alloc _, Blk.alloc (Blk.alloc HR.out _) _, HH.out.keep (((Keep.refl [] w).alloc _).alloc _) (by simp), OwnM.nil _ _ _ _, fun b hb => hb.elim, fun b hb => .inl hb, ((Keep.refl _ w).alloc _).alloc _, by omega, by omega, Nat.le_refl _, hp, hn, Nat.zero_le _, fun a ha => by simp at ha⟩, Nat.le_refl _, HRR.out⟩
theorem msg_all (s : ByteArray) (hs : s.size ≤ 100000) : ∀ F, MsgC s F := fun F => by
  induction F using Nat.strongRecOn with
  | _ F ih => exact msg_step s F ih hs
end Go.Proofs.YtjldgcpmdcoejaaGreatDoor
