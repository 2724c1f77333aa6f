/- A trail's contracts, over one word on its state. No condition. -/
import Derived.Test.YtcgadmeagbcbnaaDoorTrailBack
namespace Go.Proofs.YtcgadmeagbcbnaaDoor
open Go.RowKit

/-- The trail in block T, its memory the blocks O, with these cells and changes; w0: where all began. -/
def TrS (w0 w : World) (T : Nat) (O : Nat → Prop) (cs : List Int) (hs : List (Int × Int)) : Prop :=
  Below w0.heap.size w0 w ∧ okH cs hs ∧ cs.length ≤ 1048576 ∧ ∃ ao bo ca cb, O = ownT T ao bo ∧ TrAt w w0.heap.size T ao bo ca cb cs hs
/-- Behind a call that wrote it. -/
structure TrN (w0 w w' : World) (T : Nat) (O : Nat → Prop) (cs : List Int) (hs : List (Int × Int)) : Prop where
  st : ∃ O', TrS w0 w' T O' cs hs ∧ ∀ k, O' k → O k ∨ w.heap.size ≤ k
  mv : Moved w w' O
section
variable {w0 w w' : World} {T : Nat} {O : Nat → Prop} {cs cs' : List Int} {hs hs' : List (Int × Int)}
theorem TrS.bel (h : TrS w0 w T O cs hs) : Below w0.heap.size w0 w := h.1
theorem TrS.lt (h : TrS w0 w T O cs hs) : T < w.heap.size := by obtain ⟨_, _, _, ao, bo, ca, cb, _, h⟩ := h; exact h.lt
theorem TrS.len (h : TrS w0 w T O cs hs) : cs.length ≤ 1048576 := h.2.2.1
theorem TrS.below (h : TrS w0 w T O cs hs) (hb : Below w.heap.size w w') : TrS w0 w' T O cs hs := by
  obtain ⟨h1, h2, h3, ao, bo, ca, cb, e, h⟩ := h
  exact ⟨fb_call h1 hb, h2, h3, ao, bo, ca, cb, e, h.below hb⟩
theorem TrS.base (h : TrS w0 w T O cs hs) {k : Nat} (hk : O k) : w0.heap.size ≤ k ∧ k < w.heap.size := by
  obtain ⟨h1, h2, h3, ao, bo, ca, cb, rfl, h⟩ := h
  rcases hk with rfl | hk | hk
  · exact ⟨h.hT, h.lt⟩
  · have := World.ownsRow.lt h.cells k (by rw [own_block]; exact hk)
    exact this
  · have := World.ownsRow.lt h.chs k (by rw [own_block]; exact hk)
    exact this
/-- What is not the trail's lies as it lay. -/
theorem TrS.other (h : TrS w0 w T O cs hs) (a : Addr) (v : Value) (ha : ¬ O a.block) (hb : w0.heap.size ≤ a.block) : TrS w0 (w.setCell a v) T O cs hs := by
  obtain ⟨h1, h2, h3, ao, bo, ca, cb, rfl, h⟩ := h
  refine ⟨h1.setCell hb v, h2, h3, ao, bo, ca, cb, rfl, h.hT, ?_, ownsRow_setCell_other h.cells (by rw [own_block]; exact fun e => ha (.inr (.inl e))) _, ownsRow_setCell_other h.chs (by rw [own_block]; exact fun e => ha (.inr (.inr e))) _⟩
  rw [heap_setCell_other _ _ _ _ (fun e => ha (.inl e.symm))]; exact h.blk
theorem TrN.of_step {ao bo : Option Addr} (hb : Below w0.heap.size w0 w) (hO : O = ownT T ao bo) (hbase : ∀ k, O k → w0.heap.size ≤ k) (hk : okH cs' hs') (hl : cs'.length ≤ 1048576) (h : TStep w w' w0.heap.size T ao bo cs' hs') : TrN w0 w w' T O cs' hs' := by
  obtain ⟨ao', bo', ca', cb', h1, h2, h3⟩ := h
  subst hO
  exact ⟨⟨_, ⟨hb.trans (h2.below (fun k hk => hbase k hk) hb.size), hk, hl, ao', bo', ca', cb', rfl, h1⟩, h3⟩, h2⟩
theorem TrN.same (h : TrS w0 w T O cs hs) : TrN w0 w w T O cs hs := ⟨⟨O, h, fun _ hk => .inl hk⟩, Moved.refl _ _⟩
theorem TrN.below (h : TrS w0 w T O cs hs) (hb : Below w.heap.size w w') : TrN w0 w w' T O cs hs := ⟨⟨O, h.below hb, fun _ hk => .inl hk⟩, Moved.of_below hb _⟩

theorem tr_new (w : World) : Calls Tryd.prog 8 #[] w fun e w' => e = .returned (.pointer (some ⟨w.heap.size, 0, none⟩)) ∧ ∀ w0, Below w0.heap.size w0 w → TrS w0 w' w.heap.size (ownT w.heap.size none none) [] [] ∧ Below w.heap.size w w' :=
  (tnew_any w).mono fun e w' ⟨he, hw⟩ => ⟨he, fun w0 h0 => by
    subst hw
    exact ⟨⟨fb_alloc h0 _, okH_nil, by simp, none, none, 0, 0, rfl, h0.size, World.alloc_heap_new w _, World.ownsRow_nil _ _ _ _, World.ownsRow_nil _ _ _ _⟩, (Below.refl _ _).alloc (Nat.le_refl _) _⟩⟩
theorem tr_len (h : TrS w0 w T O cs hs) : Calls Tryd.prog 60 #[.pointer (some ⟨T, 0, none⟩)] w fun e w' => e = .returned (.int .i64 cs.length) ∧ w = w' := by
  obtain ⟨_, _, _, ao, bo, ca, cb, _, h⟩ := h
  exact tlen_any h
theorem tr_mark (h : TrS w0 w T O cs hs) : Calls Tryd.prog 16 #[.pointer (some ⟨T, 0, none⟩)] w fun e w' => e = .returned (.int .i64 hs.length) ∧ w = w' := by
  obtain ⟨_, _, _, ao, bo, ca, cb, _, h⟩ := h
  exact tmark_any h
theorem tr_get (h : TrS w0 w T O cs hs) (i : Int) : Calls Tryd.prog 43 #[.pointer (some ⟨T, 0, none⟩), .int .i64 i] w fun e w' => e = .returned (.int .i64 (getZ cs i)) ∧ w = w' := by
  obtain ⟨_, _, _, ao, bo, ca, cb, _, h⟩ := h
  exact tget_any h i
/-- A cell set. -/
def setC (cs : List Int) (i v : Int) : List Int := if 0 ≤ i ∧ i < cs.length then cs.set i.toNat v else cs
def setH (cs : List Int) (hs : List (Int × Int)) (i v : Int) : List (Int × Int) := if (0 ≤ i ∧ i < cs.length) ∧ getZ cs i ≠ v then hs ++ [(i, getZ cs i)] else hs
theorem setC_len (cs : List Int) (i v : Int) : (setC cs i v).length = cs.length := by unfold setC; split <;> simp
theorem setH_len (cs : List Int) (hs : List (Int × Int)) (i v : Int) : hs.length ≤ (setH cs hs i v).length ∧ (setH cs hs i v).length ≤ hs.length + 1 := by unfold setH; split <;> simp
theorem tr_set (h : TrS w0 w T O cs hs) (i v : Int) (hl : hs.length < 1099511627776) : Calls Tryd.prog 52 #[.pointer (some ⟨T, 0, none⟩), .int .i64 i, .int .i64 v] w fun e w' => e = .returned (.tuple #[]) ∧ TrN w0 w w' T O (setC cs i v) (setH cs hs i v) := by
  have hS := h
  obtain ⟨h1, h2, h3, ao, bo, ca, cb, hO, ht⟩ := h
  by_cases hi : 0 ≤ i ∧ i < cs.length
  · obtain ⟨n, rfl⟩ := Int.eq_ofNat_of_zero_le hi.1
    have hn : n < cs.length := by have := hi.2; omega
    have hg : getZ cs (n : Int) = cs.getD n 0 := by unfold getZ; rw [if_pos hi, Int.toNat_natCast]
    have e1 : setC cs (n : Int) v = cs.set n v := by unfold setC; rw [if_pos hi, Int.toNat_natCast]
    by_cases hv : cs.getD n 0 = v
    · have e2 : setH cs hs (n : Int) v = hs := by unfold setH; rw [if_neg (fun hh => hh.2 (by rw [hg]; exact hv))]
      have e3 : cs.set n v = cs := by
        rw [← hv]
        apply List.ext_getElem (by simp)
        intro j h1 h2
        by_cases e : n = j
        · subst e; simp [List.getD_eq_getElem?_getD, hn]
        · simp [e]
      rw [e1, e2, e3]
      exact (tset_same ht n v hn hv).mono fun e w' ⟨he, hw⟩ => ⟨he, hw ▸ TrN.same hS⟩
    · have e2 : setH cs hs (n : Int) v = hs ++ [((n : Int), cs.getD n 0)] := by unfold setH; rw [if_pos ⟨hi, by rw [hg]; exact hv⟩, hg]
      rw [e1, e2]
      refine (tset_any ht n v _ hn rfl hv hl h1.size).mono fun e w' ⟨he, bo', cb', q1, q2, q3⟩ => ⟨he, ?_⟩
      refine TrN.of_step h1 hO (fun k hk => (hS.base hk).1) (okH_set h2 hn v) (by simpa using h3) ⟨ao, bo', ca, cb', q1, q2, fun k hk => ?_⟩
      rcases hk with hk | hk | hk
      · exact .inl (.inl hk)
      · exact .inl (.inr (.inl hk))
      · exact (q3 k hk).imp (fun h => .inr (.inr h)) id
  · have e1 : setC cs i v = cs := if_neg hi
    have e2 : setH cs hs i v = hs := if_neg (fun hh => hi hh.1)
    rw [e1, e2]
    exact (tset_none ht i v hi).mono fun e w' ⟨he, hw⟩ => ⟨he, hw ▸ TrN.same hS⟩
/-- Can so many cells be made? -/
def canA (cs : List Int) (n : Int) : Prop := 1 ≤ n ∧ cs.length + n ≤ 1048576
theorem tr_alloc (h : TrS w0 w T O cs hs) (n : Int) (hn : canA cs n) (hl : hs.length < 1099511627776) : Calls Tryd.prog 34 #[.pointer (some ⟨T, 0, none⟩), .int .i64 n] w fun e w' => e = .returned (.int .i64 cs.length) ∧ TrN w0 w w' T O (cs ++ List.replicate n.toNat 0) (hs ++ [((-1 : Int), n)]) := by
  have hS := h
  obtain ⟨h1, h2, h3, ao, bo, ca, cb, hO, ht⟩ := h
  obtain ⟨k, rfl⟩ := Int.eq_ofNat_of_zero_le (show 0 ≤ n by have := hn.1; omega)
  have hk1 : 0 < k := by have := hn.1; omega
  have hk2 : cs.length + k ≤ 1048576 := by have := hn.2; omega
  rw [Int.toNat_natCast]
  exact (talloc_any ht k hk1 hk2 hl h1.size).mono fun e w' ⟨he, hs⟩ => ⟨he, TrN.of_step h1 hO (fun k hk => (hS.base hk).1) (okH_alloc h2 hk1) (by simpa using hk2) hs⟩
theorem tr_alloc_no (h : TrS w0 w T O cs hs) (n : Int) (hn : ¬ canA cs n) : Calls Tryd.prog 34 #[.pointer (some ⟨T, 0, none⟩), .int .i64 n] w fun e w' => e = .returned (.int .i64 (-1)) ∧ w = w' := by
  obtain ⟨h1, h2, h3, ao, bo, ca, cb, hO, ht⟩ := h
  by_cases h1 : n < 1
  · exact talloc_low ht n h1
  · exact talloc_big ht n (by omega) h3 (by unfold canA at hn; omega)
theorem tr_back (h : TrS w0 w T O cs hs) (m : Nat) (hm : m ≤ hs.length) (hl : hs.length < 1099511627776) : Calls Tryd.prog 17 #[.pointer (some ⟨T, 0, none⟩), .int .i64 m] w fun e w' => e = .returned (.int .i64 0) ∧ TrN w0 w w' T O (was cs hs m) (hs.take m) := by
  have hS := h
  obtain ⟨h1, h2, h3, ao, bo, ca, cb, hO, ht⟩ := h
  exact (tback_any ht m hm h2 h3 hl).mono fun e w' ⟨he, hs⟩ => ⟨he, TrN.of_step h1 hO (fun k hk => (hS.base hk).1) (okH_back h2 m) (Nat.le_trans (backs_len _ _) h3) hs⟩
theorem tr_back_no (h : TrS w0 w T O cs hs) (m : Int) (hm : ¬ (0 ≤ m ∧ m ≤ hs.length)) : Calls Tryd.prog 17 #[.pointer (some ⟨T, 0, none⟩), .int .i64 m] w fun e w' => e = .returned (.int .i64 2) ∧ Below w.heap.size w w' := by
  obtain ⟨h1, h2, h3, ao, bo, ca, cb, hO, ht⟩ := h
  exact tback_arg ht m hm
end
end Go.Proofs.YtcgadmeagbcbnaaDoor
