/- Alloc of a trail: what it refuses. No condition. -/
import Derived.Test.YtcgadmeagbcbnaaDoorTrailSet
import Derived.Test.YtcgadmeagbcbnaaDoorAppZ
namespace Go.Proofs.YtcgadmeagbcbnaaDoor
open Go.RowKit

section
variable {w : World} {base T : Nat} {ao bo : Option Addr} {ca cb : Nat} {cs : List Int} {hs : List (Int × Int)}
set_option maxHeartbeats 1000000 in
theorem talloc_nil (w : World) (n : Int) : Calls Tryd.prog 34 #[.pointer none, .int .i64 n] w fun e w' => e = .returned (.int .i64 (-1)) ∧ w = w' := by
  go_enter Tryd.func34, Tryd.ntmps34
  go_wp2
  go_ret
  exact ⟨rfl, rfl⟩

set_option maxHeartbeats 1000000 in
theorem talloc_low (h : TrAt w base T ao bo ca cb cs hs) (n : Int) (hn : n < 1) : Calls Tryd.prog 34 #[.pointer (some ⟨T, 0, none⟩), .int .i64 n] w fun e w' => e = .returned (.int .i64 (-1)) ∧ w = w' := by
  have c0 := h.c0
  clear h
  go_enter Tryd.func34, Tryd.ntmps34
  go_wp2
  go_ret
  exact ⟨rfl, rfl⟩

set_option maxHeartbeats 1000000 in
theorem talloc_big (h : TrAt w base T ao bo ca cb cs hs) (n : Int) (hn : 1 ≤ n) (hc : cs.length ≤ 1048576) (hb : 1048576 < cs.length + n) : Calls Tryd.prog 34 #[.pointer (some ⟨T, 0, none⟩), .int .i64 n] w fun e w' => e = .returned (.int .i64 (-1)) ∧ w = w' := by
  have c0 := h.c0
  clear h
  go_enter Tryd.func34, Tryd.ntmps34
  go_wp2
  go_ret
  exact ⟨rfl, rfl⟩

/-- The trail with the cells appended, its field 0 stored. -/
theorem alloc_mid {w1 : World} {m : Nat} {v : Value} (h : TrAt w base T ao bo ca cb cs hs)
    (hg : w.grownBy w1 (Value.slice ao cs.length ca).ownBlock) (hown : w1.ownsRow base 3 1 v (cs.length + m) (cs.map (Value.int .i64) ++ List.replicate m (.int .i64 0))) (h0 : 0 < m)
    (hfr : ∀ k, v.ownBlock = some k → (Value.slice ao cs.length ca).ownBlock = some k ∨ w.heap.size ≤ k) :
    ∃ g' ca', v = .slice (some ⟨g', 0, none⟩) (cs.length + m) ca' ∧ TrAt (w1.setCell ⟨T, 0, none⟩ v) base T (some ⟨g', 0, none⟩) bo ca' cb (cs ++ List.replicate m 0) hs ∧
      Moved w (w1.setCell ⟨T, 0, none⟩ v) (ownT T ao bo) ∧ (ao.map Addr.block = some g' ∨ w.heap.size ≤ g') ∧
      w1.cell? ⟨T, 0, none⟩ = some (.slice ao cs.length ca) ∧ w1.cell? ⟨T, 1, none⟩ = some (.slice bo hs.length cb) ∧ (∀ i, w1.frozen? ⟨T, i, none⟩ = false) := by
  obtain ⟨g', ca', rfl⟩ := own_form hown (by omega)
  have hgg := hg
  rw [own_block] at hg
  have hT : w1.heap[T]? = w.heap[T]? := hg.block T h.lt (Ne.symm h.neA)
  have hTb : w1.heap[T]? = some (.cells #[.slice ao cs.length ca, .slice bo hs.length cb] 70 (0, 0)) := hT.trans h.blk
  obtain ⟨hl2, c2 | ⟨ga, capa, cura, hva, hga, hha, hna, hma, hsa, hta⟩⟩ := hown
  · exact absurd c2.1 (by simp)
  injection hva with e1 e2 e3; injection e1 with e1; injection e1 with e1; subst e1; subst e3
  have hneT : g' ≠ T := fun e => by subst e; rw [hTb] at hha; injection hha with hha; injection hha with _ h5 _; exact absurd h5 (by decide)
  have hchs : w1.ownsRow base 97 2 (.slice bo hs.length cb) hs.length (flat hs) := h.chs.kept hgg (by
    rw [own_block, own_block]
    cases hao : ao.map Addr.block with
    | none =>
      cases hbo : bo.map Addr.block with
      | none => exact .inl rfl
      | some _ => exact .inr (by simp)
    | some g => exact .inr (h.neAB hao))
  refine ⟨g', ca', rfl, ⟨h.hT, ?_, ⟨by simp, .inr ⟨g', ca', cura, by simp, hga, ?_, by simpa using hna, hma, hsa, ?_⟩⟩, ?_⟩, ?_, ?_, ?_, ?_, ?_⟩
  · rw [heap_setCell_same _ _ _ _ _ _ hTb]
    simp
  · rw [heap_setCell_other _ _ _ _ hneT]; exact hha
  · simpa using hta
  · refine ⟨hchs.1, ?_⟩
    rcases hchs.2 with c | ⟨gb, capb, curb, hvb, hgb, hhb, hnb, hmb, hsb, htb⟩
    · exact .inl c
    · have hne : gb ≠ T := fun e => by subst e; rw [hTb] at hhb; injection hhb with hhb; injection hhb with _ h5 _; exact absurd h5 (by decide)
      exact .inr ⟨gb, capb, curb, hvb, hgb, by rw [heap_setCell_other _ _ _ _ hne]; exact hhb, hnb, hmb, hsb, htb⟩
  · have m1 : Moved w w1 (ownT T ao bo) := Moved.of_grown hg (fun k e => .inr (.inl e))
    exact m1.trans (Moved.of_set _ ⟨T, 0, none⟩ _ (S := fun k => k = T) rfl) (fun k hk => .inl (.inl hk))
  · have := hfr g' rfl
    rw [own_block] at this
    exact this
  · exact (World.cell?_of_block (a := ⟨T, 0, none⟩) hT).trans h.c0
  · exact (World.cell?_of_block (a := ⟨T, 1, none⟩) hT).trans h.c1
  · exact fun i => (World.frozen?_of_block (a := ⟨T, i, none⟩) hT).trans (h.fr i)

/-- One change more, its field 1 stored. -/
theorem alloc_done {w1 : World} {o : Obj} {v : Value} {x y : Int} (h : TrAt w base T ao bo ca cb cs hs)
    (hg : ((w.alloc o).drew).grownBy w1 (Value.slice bo hs.length cb).ownBlock) (hown : w1.ownsRow base 97 2 v (hs.length + 1) (flat hs ++ [.int .i64 x, .int .i64 y]))
    (hfr : ∀ k, v.ownBlock = some k → (Value.slice bo hs.length cb).ownBlock = some k ∨ (w.alloc o).drew.heap.size ≤ k) :
    ∃ bo' cb', v = .slice bo' (hs.length + 1) cb' ∧ TrAt (w1.setCell ⟨T, 1, none⟩ v) base T ao bo' ca cb' cs (hs ++ [(x, y)]) ∧
      Moved w (w1.setCell ⟨T, 1, none⟩ v) (ownT T ao bo) ∧ (∀ k, bo'.map Addr.block = some k → bo.map Addr.block = some k ∨ w.heap.size ≤ k) ∧
      w1.cell? ⟨T, 1, none⟩ = some (.slice bo hs.length cb) ∧ (∀ i, w1.frozen? ⟨T, i, none⟩ = false) := by
  obtain ⟨g', ca', rfl⟩ := own_form hown (by omega)
  have hgg := hg
  rw [own_block] at hg
  have hs0 : (w.alloc o).drew.heap.size = w.heap.size + 1 := World.size_alloc _ _
  have hT : w1.heap[T]? = w.heap[T]? := (hg.block T (by rw [hs0]; have := h.lt; omega) (Ne.symm h.neB)).trans (Below.heap_alloc w o T h.lt)
  have hTb : w1.heap[T]? = some (.cells #[.slice ao cs.length ca, .slice bo hs.length cb] 70 (0, 0)) := hT.trans h.blk
  obtain ⟨hl2, c2 | ⟨ga, capa, cura, hva, hga, hha, hna, hma, hsa, hta⟩⟩ := hown
  · exact absurd c2.1 (by simp)
  injection hva with e1 e2 e3; injection e1 with e1; injection e1 with e1; subst e1; subst e3
  have hneT : g' ≠ T := fun e => by subst e; rw [hTb] at hha; injection hha with hha; injection hha with _ h5 _; exact absurd h5 (by decide)
  have hcells : w1.ownsRow base 3 1 (.slice ao cs.length ca) cs.length (cs.map (Value.int .i64)) := ((h.cells.alloc o).drew).kept hgg (by
    rw [own_block, own_block]
    cases hao : ao.map Addr.block with
    | none => exact .inl rfl
    | some g => exact .inr (fun e => h.neAB hao e.symm))
  refine ⟨some ⟨g', 0, none⟩, ca', rfl, ⟨h.hT, ?_, ?_, ⟨by rw [flat_len], .inr ⟨g', ca', cura, by simp, hga, ?_, by simpa using hna, hma, hsa, ?_⟩⟩⟩, ?_, ?_, ?_, ?_⟩
  · rw [heap_setCell_same _ _ _ _ _ _ hTb]
    simp
  · refine ⟨hcells.1, ?_⟩
    rcases hcells.2 with c | ⟨gb, capb, curb, hvb, hgb, hhb, hnb, hmb, hsb, htb⟩
    · exact .inl c
    · have hne : gb ≠ T := fun e => by subst e; rw [hTb] at hhb; injection hhb with hhb; injection hhb with _ h5 _; exact absurd h5 (by decide)
      exact .inr ⟨gb, capb, curb, hvb, hgb, by rw [heap_setCell_other _ _ _ _ hne]; exact hhb, hnb, hmb, hsb, htb⟩
  · rw [heap_setCell_other _ _ _ _ hneT]; exact hha
  · rw [flat_append, List.length_append, List.length_singleton, hta]; rfl
  · have m1 : Moved w w1 (ownT T ao bo) :=
      (Moved.of_below (by exact ((Below.refl _ w).alloc (Nat.le_refl _) o).drew) _).trans (Moved.of_grown (S := fun k => bo.map Addr.block = some k) hg (fun k e => e)) (fun k hk => .inl (.inr (.inr hk)))
    exact m1.trans (Moved.of_set _ ⟨T, 1, none⟩ _ (S := fun k => k = T) rfl) (fun k hk => .inl (.inl hk))
  · intro k hk
    have := hfr k hk
    rw [own_block] at this
    exact this.imp id (fun h => by rw [hs0] at h; omega)
  · exact (World.cell?_of_block (a := ⟨T, 1, none⟩) hT).trans h.c1
  · exact fun i => (World.frozen?_of_block (a := ⟨T, i, none⟩) hT).trans (h.fr i)
end
end Go.Proofs.YtcgadmeagbcbnaaDoor
