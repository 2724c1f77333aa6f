/- Between the rounds of an index's loops over keys: what is the index's, and what is not. No condition. -/
import Derived.Test.YtcgadmeagbcbnaaDoorIdxT
namespace Go.Proofs.YtcgadmeagbcbnaaDoor
open Go.RowKit Go.Shelf
attribute [local irreducible] Calls

theorem has1_any (d : Nat) (hd : 1 ≤ d) (n : Nat) (b : IB) (sm : ISm b) (cd : Int) (Bc Bx : Nat) (w1 : World) (hP : HP n b cd Bc Bx w1) :
    HandsOverB d Tryd.prog 59 #[.pointer (some ⟨Bc, 0, none⟩), .pointer (some ⟨Bx, 0, none⟩)] (fun x : Int × Int => #[.agg #[.int .i64 x.1, .int .i64 x.2]]) (KpOf (HP n b cd Bc Bx)) (absOf b.abs cd) w1 := by
  by_cases h : cd < 0 ∨ (b.abs.length : Int) ≤ cd
  · rw [absOf_out h]; exact has1_none d n b cd Bc Bx h w1 hP
  · obtain ⟨i, rfl⟩ := Int.eq_ofNat_of_zero_le (show 0 ≤ cd by omega)
    rw [absOf_in (by omega)]; exact has1_in d hd n b i (by omega) sm Bc Bx w1 hP
theorem absOf_wf {b : IB} (sm : ISm b) {cd : Int} {k : Nat} {x : Int × Int} (hx : (absOf b.abs cd)[k]? = some x) : wf2 x.1 x.2 := by
  have hm := List.mem_of_getElem? hx
  unfold absOf at hm
  split at hm
  · rename_i h; exact sm.wf _ (by omega) x hm
  · cases hm
theorem absOf_len {b : IB} (sm : ISm b) (cd : Int) : (absOf b.abs cd).length ≤ 5 := by
  unfold absOf
  split
  · rename_i h; exact sm.each _ (by omega)
  · simp
def isCellsAt (W : World) (j : Nat) : Prop := ∃ cs t f, W.heap[j]? = some (.cells cs t f)
theorem TrS.cellsAt {w0 w : World} {T : Nat} {O : Nat → Prop} {cs : List Int} {hs : List (Int × Int)} (h : TrS w0 w T O cs hs) {j : Nat} (hj : O j) : isCellsAt w j := by
  obtain ⟨_, _, _, ao, bo, ca, cb, rfl, h4⟩ := h
  have own : ∀ {base : Nat} {e : TypeId} {size n cap : Nat} {a : Option Addr} {xs : List Value}, w.ownsRow base e size (.slice a n cap) n xs → ∀ ad, a = some ad → ad.block = j → isCellsAt w j := by
    intro base e size n cap a xs ho ad had hb
    rcases ho.2 with ⟨h1, _⟩ | ⟨g, cp, cur, hv, _, hg, _⟩
    · rw [had] at h1; cases h1
    · rw [had] at hv; injection hv with h1; injection h1 with h1
      rw [h1] at hb
      subst hb
      exact ⟨_, _, _, hg⟩
  rcases hj with rfl | hk | hk
  · exact ⟨_, _, _, h4.blk⟩
  · obtain ⟨ad, h1, h2⟩ : ∃ ad, ao = some ad ∧ ad.block = j := by
      cases ao with
      | none => cases hk
      | some ad => exact ⟨ad, rfl, by injection hk⟩
    exact own h4.cells ad h1 h2
  · obtain ⟨ad, h1, h2⟩ : ∃ ad, bo = some ad ∧ ad.block = j := by
      cases bo with
      | none => cases hk
      | some ad => exact ⟨ad, rfl, by injection hk⟩
    exact own h4.chs ad h1 h2
section
variable {w0 w W W' : World} {col : Nat → Nat} {c k n : Nat} {b : IB} {q : List Int × List (Int × Int)} {m m' : IM} {E E' : Nat → Prop}
theorem IS.tight (h : IS w0 W col c b k q m) : ∃ col', IS w0 W col' c b k q m ∧ ∀ j, col' j = c → col j = c ∧ j < W.heap.size ∧ (b.has j ∨ isCellsAt W j) := by
  classical
  obtain ⟨O, p, h1, h2⟩ := h
  refine ⟨fun j => if O j ∨ b.has j then c else c + 1, ⟨O, p, ⟨fun j hj => if_pos (.inl hj), fun j hj => if_pos (.inr hj), h1.t, h1.o, h1.f, h1.h, h1.g⟩, h2⟩, fun j hj => ?_⟩
  by_cases e : O j ∨ b.has j
  · rcases e with e | e
    · exact ⟨h1.oc j e, (h1.t.base e).2, .inr (h1.t.cellsAt e)⟩
    · exact ⟨h1.bc j e, h1.f.isLt e, .inl e⟩
  · simp only [if_neg e] at hj; omega
theorem IS.recolor {col2 : Nat → Nat} (h : IS w0 W col c b k q m) (hc : ∀ j, col j = c → col2 j = c) : IS w0 W col2 c b k q m := by
  obtain ⟨O, p, h1, h2⟩ := h
  exact ⟨O, p, ⟨fun j hj => hc j (h1.oc j hj), fun j hj => hc j (h1.bc j hj), h1.t, h1.o, h1.f, h1.h, h1.g⟩, h2⟩
/-- The blocks E, and all that are no cells, are not the index's. -/
structure IH (w0 w : World) (col : Nat → Nat) (c : Nat) (b : IB) (E : Nat → Prop) (W : World) (k : Nat) (q : List Int × List (Int × Int)) (m : IM) : Prop where
  st : ∃ col1, IS w0 W col1 c b k q m ∧ (∀ j, col1 j = c → recol w.heap.size col c j = c) ∧ (∀ j, E j → col1 j ≠ c) ∧ ∀ j, w.heap.size ≤ j → col1 j = c → isCellsAt W j
  mv : Moved w W (fun j => col j = c)
  lt : ∀ j, b.has j → j < w.heap.size
  el : ∀ j, E j → w.heap.size ≤ j ∧ j < W.heap.size
  zl : w0.heap.size ≤ w.heap.size
theorem IH.start (h : IS w0 w col c b k q m) : IH w0 w col c b (fun _ => False) w k q m := by
  obtain ⟨col', h1, h2⟩ := h.tight
  exact ⟨⟨col', h1, fun j hj => by rw [recol_lt (h2 j hj).2.1]; exact (h2 j hj).1, fun j hj => hj.elim, fun j hj hc => absurd (h2 j hc).2.1 (by omega)⟩, Moved.refl _ _, fun j hj => h.fo.isLt hj, fun j hj => hj.elim, h.bel.size⟩
theorem IH.mono (h : IH w0 w col c b E W k q m) (hn : k ≤ n) : IH w0 w col c b E W n q m := by
  obtain ⟨⟨col1, h1, h2⟩, h3, h4, h5, h8⟩ := h
  exact ⟨⟨col1, h1.mono hn, h2⟩, h3, h4, h5, h8⟩
theorem IH.weak (h : IH w0 w col c b E W k q m) (hE : ∀ j, E' j → E j) : IH w0 w col c b E' W k q m := by
  obtain ⟨⟨col1, h1, h2, h6, h7⟩, h3, h4, h5, h8⟩ := h
  exact ⟨⟨col1, h1, h2, fun j hj => h6 j (hE j hj), h7⟩, h3, h4, fun j hj => h5 j (hE j hj), h8⟩
theorem IH.size (h : IH w0 w col c b E W k q m) : w.heap.size ≤ W.heap.size := h.mv.size
theorem IH.fo (h : IH w0 w col c b E W k q m) : IxF W b := by obtain ⟨⟨_, h1, _⟩, _⟩ := h; exact h1.fo
theorem IH.sm (h : IH w0 w col c b E W k q m) : ISm b := by obtain ⟨⟨_, h1, _⟩, _⟩ := h; exact h1.sm
/-- New memory is not the index's. -/
theorem IH.below (h : IH w0 w col c b E W k q m) (hb : Below W.heap.size W W') : IH w0 w col c b (fun j => E j ∨ (W.heap.size ≤ j ∧ j < W'.heap.size)) W' k q m := by
  have hs := h.size
  obtain ⟨⟨col1, h1, h2, h6, h7⟩, h3, h4, h5, h8⟩ := h
  have key : ∀ j, recol W.heap.size col1 (c + 1) j = c → j < W.heap.size ∧ col1 j = c := fun j hj => by
    by_cases hl : j < W.heap.size
    · rw [recol_lt hl] at hj; exact ⟨hl, hj⟩
    · rw [recol_ge (by omega)] at hj; omega
  refine ⟨⟨_, h1.below hb (c + 1), fun j hj => h2 j (key j hj).2, fun j hj hc => ?_, fun j hj hc => ?_⟩, h3.trans (Moved.of_below hb (fun _ => False)) (fun _ hf => hf.elim), h4, fun j hj => ?_, h8⟩
  · rcases hj with hj | hj
    · exact h6 j hj (key j hc).2
    · have := (key j hc).1; omega
  · obtain ⟨cs, t, f, hx⟩ := h7 j hj (key j hc).2
    exact ⟨cs, t, f, (hb.block j (key j hc).1).trans hx⟩
  · have := hb.size
    rcases hj with hj | hj
    · have := h5 j hj; omega
    · omega
/-- A block that is no cells has turned. -/
theorem IH.grown {row : Option Nat} (h : IH w0 w col c b E W k q m) (hg : W.grownBy W' row) (hr : ∀ r, row = some r → w.heap.size ≤ r ∧ ∃ o : Obj, W.heap[r]? = some o ∧ o.isCells = false) : IH w0 w col c b E W' k q m := by
  have hs := h.size
  obtain ⟨⟨col1, h1, h2, h6, h7⟩, h3, h4, h5, h8⟩ := h
  have hne : ∀ r, row = some r → col1 r ≠ c := fun r e hc => by
    obtain ⟨hl, o, ho, hoc⟩ := hr r e
    obtain ⟨cs, t, f, hx⟩ := h7 r hl hc
    rw [hx] at ho
    injection ho with ho
    rw [← ho] at hoc
    cases hoc
  have hmv : Moved W W' (fun j => row = some j) := ⟨hg.os, hg.tape, hg.output, hg.size, fun j hj hn => hg.block j hj (fun e => hn e.symm)⟩
  obtain ⟨O, p, g1, g2⟩ := h1
  have hbel : Below w0.heap.size w0 W' := g1.t.bel.trans (hmv.below (fun j hj => Nat.le_trans h8 (hr j hj).1) g1.t.bel.size)
  refine ⟨⟨col1, ⟨O, p, ⟨g1.oc, g1.bc, g1.t.moved hmv hbel (fun j hj hrow => hne j hrow (g1.oc j hj)), g1.o, g1.f.moved hmv (fun j hj hrow => hne j hrow (g1.bc j hj)), g1.h, g1.g⟩, g2⟩, h2, h6, fun j hj hc => ?_⟩,
    h3.trans hmv (fun j hj => .inr (hr j hj).1), h4, fun j hj => ⟨(h5 j hj).1, Nat.lt_of_lt_of_le (h5 j hj).2 hg.size⟩, h8⟩
  obtain ⟨cs, t, f, hx⟩ := h7 j hj hc
  exact ⟨cs, t, f, (hmv.block j (Array.getElem?_eq_some_iff.1 hx).1 (fun e => hne j e hc)).trans hx⟩
/-- A call that wrote the index: what is so behind it. -/
theorem IH.next (h : IH w0 w col c b E W k q m) : ∃ col1, IS w0 W col1 c b k q m ∧ ∀ (W' : World) (n : Nat) (m' : IM), ISN w0 W W' col1 c b n q m' →
    IH w0 w col c b E W' n q m' ∧ KeepsFrom w.heap.size W W' ∧ (∀ j, E j → W'.heap[j]? = W.heap[j]?) := by
  have hs := h.size
  obtain ⟨⟨col1, h1, h2, h6, h7⟩, h3, h4, h5, h8⟩ := h
  refine ⟨col1, h1, fun W' n m' hN => ?_⟩
  obtain ⟨col2, k1, k2⟩ := hN.1.tight
  have hm := hN.2
  refine ⟨⟨⟨col2, k1, fun j hj => ?_, fun j hj hc => ?_, fun j hj hc => ?_⟩, h3.trans hm (fun j hj => ?_), h4, fun j hj => ⟨(h5 j hj).1, Nat.lt_of_lt_of_le (h5 j hj).2 hm.size⟩, h8⟩, ⟨hm.size, fun j o hj ho hoc => ?_⟩, fun j hj => ?_⟩
  · have := (k2 j hj).1
    by_cases hl : j < W.heap.size
    · rw [recol_lt hl] at this; exact h2 j this
    · exact recol_ge (by omega)
  · have := (k2 j hc).1
    rw [recol_lt (h5 j hj).2] at this
    exact h6 j hj this
  · rcases (k2 j hc).2.2 with e | e
    · exact absurd (h4 j e) (by omega)
    · exact e
  · have := h2 j hj
    by_cases hl : j < w.heap.size
    · rw [recol_lt hl] at this; exact .inl this
    · exact .inr (by omega)
  · refine (hm.block j (Array.getElem?_eq_some_iff.1 ho).1 fun hc => ?_).trans ho
    obtain ⟨cs, t, f, hx⟩ := h7 j hj hc
    rw [hx] at ho
    injection ho with ho
    rw [← ho] at hoc
    cases hoc
  · exact hm.block j (h5 j hj).2 (h6 j hj)
theorem IH.fin (h : IH w0 w col c b E W k q m) : ISN w0 w W col c b k q m := by
  obtain ⟨⟨col1, h1, h2, h6, h7⟩, h3, h4, h5, h8⟩ := h
  exact ⟨h1.recolor h2, h3⟩
end
end Go.Proofs.YtcgadmeagbcbnaaDoor
