/- Zones and what else lies apart, by colours; plain facts of lists. No condition. -/
import Derived.Test.YtfkkkndigkchcaaZoneW
import Derived.Test.YtfkkkndigkchcaaAppI
namespace Go.Proofs.Ytfkkkndigkchcaa
open Go.RowKit
attribute [local irreducible] Calls

/-- The zones of the colour 1, and what the colours 2 and 3 hold. -/
def ZE (w0 w : World) (col : Nat → Nat) (b : ZB) (g : ZG) (k : Nat) (q : List Int × List (Int × Int)) (L : List (List Nat)) (P2 P3 : World → Prop) : Prop :=
  ZL w0 w col 1 b g k q L ∧ Res w col 2 P2 ∧ Res w col 3 P3
def yes (_ : World) : Prop := True
theorem Res.yes (w : World) (col : Nat → Nat) (c : Nat) : Res w col c yes := fun _ _ => trivial
section
variable {w0 w w' : World} {col : Nat → Nat} {k n : Nat} {b : ZB} {g : ZG} {q : List Int × List (Int × Int)} {L L' : List (List Nat)} {P2 P3 P : World → Prop}
theorem ZE.of (h : ZL w0 w col 1 b g k q L) : ZE w0 w col b g k q L yes yes := ⟨h, Res.yes _ _ _, Res.yes _ _ _⟩
theorem ZE.z (h : ZE w0 w col b g k q L P2 P3) : ZL w0 w col 1 b g k q L := h.1
theorem ZE.p2 (h : ZE w0 w col b g k q L P2 P3) : P2 w := h.2.1.now
theorem ZE.p3 (h : ZE w0 w col b g k q L P2 P3) : P3 w := h.2.2.now
theorem ZE.forget (h : ZE w0 w col b g k q L P2 P3) : ZE w0 w col b g k q L yes yes := ZE.of h.1
theorem ZE.bel (h : ZE w0 w col b g k q L P2 P3) : Below w0.heap.size w0 w := h.1.bel
theorem ZE.mono (h : ZE w0 w col b g k q L P2 P3) (hn : k ≤ n) : ZE w0 w col b g n q L P2 P3 := ⟨h.1.mono hn, h.2⟩
theorem ZE.below (h : ZE w0 w col b g k q L P2 P3) (hb : Below w.heap.size w w') : ZE w0 w' (recol w.heap.size col 9) b g k q L P2 P3 := ⟨h.1.below hb 9, h.2.1.made 9 hb, h.2.2.made 9 hb⟩
theorem ZE.zln (h : ZE w0 w col b g k q L P2 P3) (hN : ZLN w0 w w' col 1 b g n q L') : ZE w0 w' (recol w.heap.size col 1) b g n q L' P2 P3 :=
  ⟨hN.st, h.2.1.step hN.mv (fun _ h _ => h) (by decide), h.2.2.step hN.mv (fun _ h _ => h) (by decide)⟩
/-- Something new of the colour 2 (in place of what it had), and of 3. -/
theorem ZE.new2 (h : ZE w0 w col b g k q L P2 P3) (hb : Below w.heap.size w w') (hP : Res w' (recol w.heap.size col 2) 2 P) : ZE w0 w' (recol w.heap.size col 2) b g k q L P P3 := ⟨h.1.below hb 2, hP, h.2.2.made 2 hb⟩
theorem ZE.new3 (h : ZE w0 w col b g k q L P2 P3) (hb : Below w.heap.size w w') (hP : Res w' (recol w.heap.size col 3) 3 P) : ZE w0 w' (recol w.heap.size col 3) b g k q L P2 P := ⟨h.1.below hb 3, h.2.1.made 3 hb, hP⟩
/-- What has the colour 2 was written. -/
theorem ZE.set2 {S : Nat → Prop} (h : ZE w0 w col b g k q L P2 P3) (hm : Moved w w' S) (hS : ∀ j, S j → j < w.heap.size → col j = 2) (hb : ∀ j, S j → w0.heap.size ≤ j) (hP : Res w' (recol w.heap.size col 2) 2 P) : ZE w0 w' (recol w.heap.size col 2) b g k q L P P3 :=
  ⟨h.1.moved hm hS hb (by decide), hP, h.2.2.step hm hS (by decide)⟩
theorem Res.newRow {a base : Nat} {v : Value} {l : List Int} (h : IRow w' base v l) (hn : w.heap.size ≤ base) : Res w' (recol w.heap.size col a) a (fun W => IRow W base v l) := Res.irow h fun _ hk => recol_ge (Nat.le_trans hn (World.ownsRow.lt h _ hk).1)
theorem IRow.formc {w : World} {base : Nat} {v : Value} {l : List Int} (h : IRow w base v l) (hn : 0 < l.length) : ∃ g cap, v = .slice (some ⟨g, 0, none⟩) l.length cap ∧ l.length ≤ cap := by
  rcases h.2 with ⟨_, h0⟩ | ⟨g, cap, _, hv, _, _, hc, _⟩
  · omega
  · exact ⟨g, cap, hv, hc⟩
/-- Where a slot is. -/
theorem ZL.at {c : Nat} (_h : ZL w0 w col c b g k q L) {s : Nat} (hs : ∃ z, s ∈ L.getD z []) : ∃ z j, j < (L.getD z []).length ∧ (L.getD z []).getD j 0 = s := by
  obtain ⟨z, hz⟩ := hs
  obtain ⟨j, hj, e⟩ := mem_getD' hz
  exact ⟨z, j, hj, e⟩
theorem ZL.took {c : Nat} (h : ZL w0 w col c b g k q L) {z j : Nat} (hj : j < (L.getD z []).length) : zno (L.set z (takeL (L.getD z []) j)) ((L.getD z []).getD j 0 : Nat) := by
  intro x t ht e
  have e' : t = (L.getD z []).getD j 0 := by omega
  have hz : z < L.length := by rw [h.zl]; exact h.out (getD_mem' hj)
  rw [getD_setL _ _ _ _ hz] at ht
  by_cases hx : x = z
  · rw [if_pos hx] at ht
    exact takeL_not (h.nodup z) hj (e' ▸ ht)
  · rw [if_neg hx] at ht
    exact hx (h.one ht (e' ▸ getD_mem' hj))
end
theorem ints_take (l : List Nat) (j : Nat) : ints (takeL l j) = (ints l).take j ++ (ints l).drop (j + 1) := by
  unfold ints takeL
  rw [List.map_append, List.map_take, List.map_drop]
end Go.Proofs.Ytfkkkndigkchcaa
