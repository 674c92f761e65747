/- Walks: choice of the reader of messages. -/
import Derived.Test.YtmfoiceofhcicaaGreatDoorMD
import Derived.Deep.RegionLawGrows
namespace Go.Proofs.YtmfoiceofhcicaaGreatDoor
open Go.RowKit

theorem infoBool : (Tryz.prog.info? 4).map (fun i => (i.zero, i.size, i.bytes)) = some (some (.bool false), 1, 1) := by kernel_rfl
theorem prefix_len {s : ByteArray} {q : Nat} (h : Lib.hasPrefix (s.extract q s.size).data.toList offW = true) : q + 7 ≤ s.size := by
  unfold Lib.hasPrefix at h
  have h1 := (List.isPrefixOf_iff_prefix.1 h).length_le
  have h2 : (s.extract q s.size).data.toList.length = (s.extract q s.size).size := by rw [Array.length_toList]; rfl
  rw [h2, ByteArray.size_extract] at h1
  simp [offW] at h1
  omega
theorem signS_out (s : ByteArray) (b : Int) (p : Nat) : signS s b p ≠ .out := by unfold signS; split <;> simp
theorem topB_snoc (l : List Bool) (b : Bool) : topB (l ++ [b]) = b := by unfold topB; simp
theorem Hs.pop {B : Nat} {w : World} {gh cap : Nat} {l : List Bool} {b : Bool} {n : Nat} (h : Hs B w (.slice (some ⟨gh, 0, none⟩) (n + 1) cap) (l ++ [b])) (hn : l.length = n) : Hs B w (.slice (some ⟨gh, 0, none⟩) n cap) l := by
  subst hn
  unfold Hs at h ⊢
  refine ⟨by simp, ?_⟩
  rcases h.2 with ⟨h0, _⟩ | ⟨g, c, cur, hv, hB, hg, hle, hc, hsz, htk⟩
  · cases h0
  · injection hv with h1 _ h3
    injection h1 with h1
    injection h1 with h1
    subst h1; subst h3
    refine .inr ⟨gh, cap, cur, rfl, hB, hg, by simp at hle; omega, hc, hsz, ?_⟩
    have := congrArg (List.take l.length) htk
    rw [List.take_take, List.map_append, List.take_left' (by simp)] at this
    simp at this
    simpa using this
theorem Hs.snoc_form {B : Nat} {w : World} {v : Value} {l : List Bool} {b : Bool} {n : Nat} (h : Hs B w v (l ++ [b])) (hn : l.length = n) : ∃ gh cap, v = .slice (some ⟨gh, 0, none⟩) (n + 1) cap ∧ n + 1 ≤ cap ∧ cap ≤ maxLen := by
  subst hn
  rcases h.2 with ⟨_, h0⟩ | ⟨g, c, cur, hv, hB, hg, hle, hc, hsz, htk⟩
  · simp at h0
  · exact ⟨g, c, by rw [hv]; simp, by simpa using hle, hc⟩
theorem caseBox {w w' : World} {bs : List Nat} (h : Keep bs (w.alloc (.cells #[.string ⟨#[]⟩, .slice none 0 0] 70)).drew w') (hn : w.heap.size ∉ bs) :
    Blk w' w.heap.size 70 #[.string ⟨#[]⟩, .slice none 0 0] ∧ w'.frozen? ⟨w.heap.size, 0, none⟩ = false ∧ w'.frozen? ⟨w.heap.size, 1, none⟩ = false ∧ w'.cell? ⟨w.heap.size, 0, none⟩ = some (.string ⟨#[]⟩) ∧ w'.cell? ⟨w.heap.size, 1, none⟩ = some (.slice none 0 0) := by
  have hb : Blk w' w.heap.size 70 #[.string ⟨#[]⟩, .slice none 0 0] := Blk.keep (Blk.drew (Blk.new w 70 #[.string ⟨#[]⟩, .slice none 0 0])) h hn
  exact ⟨hb, hb.frozen 0, hb.frozen 1, hb.cell_eq rfl, hb.cell_eq rfl⟩
theorem infoCase : (Tryz.prog.info? 70).map (fun i => (i.zero, i.size, i.bytes)) = some (some (.agg #[.string ⟨#[]⟩, .slice none 0 0]), 2, 40) := by kernel_rfl
theorem OwnK.more {f B : Nat} {S T : Nat → Prop} {w' : World} {v' : Value} {cs : List CT} {us : List Value} {c : CT} {pv : Value} (hu : us.length = cs.length) (ho : w'.ownsRow B 70 2 v' (cs.length + 1) (caseC cs us ++ [.string c.1, pv]))
    (h : ∀ (j : Nat) (c : CT) (pv : Value), cs[j]? = some c → us[j]? = some pv → Lies f S w' pv c.2) (hc : Lies f T w' pv c.2) : OwnK f (fun b => S b ∨ T b) w' B v' (cs ++ [c]) := by
  refine ⟨us ++ [pv], by simp [hu], ?_, ?_⟩
  · rw [caseC_append _ _ _ _ hu, List.length_append]
    exact ho
  · intro j d qv hj hq
    rcases Nat.lt_or_ge j cs.length with hh | hh
    · rw [List.getElem?_append_left hh] at hj
      rw [List.getElem?_append_left (by omega)] at hq
      exact (h j d qv hj hq).mono (fun x hx => .inl hx)
    · rw [List.getElem?_append_right hh] at hj
      rw [List.getElem?_append_right (by omega), hu] at hq
      cases hi : j - cs.length with
      | zero => rw [hi] at hj hq; simp at hj hq; subst hj; subst hq; exact hc.mono (fun x hx => .inr hx)
      | succ k => rw [hi] at hj; simp at hj
theorem pt_off (pt : PT) (h : pt.off = 0) : ({ pt with off := 0 } : PT) = pt := by cases pt; simp at h; subst h; rfl
end Go.Proofs.YtmfoiceofhcicaaGreatDoor
