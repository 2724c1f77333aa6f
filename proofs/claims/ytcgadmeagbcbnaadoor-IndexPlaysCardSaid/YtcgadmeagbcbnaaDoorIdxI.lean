/- Between the rounds of an index's loops over keys: what is the index's, and what is not. No condition. An index's hold. No condition. -/
import Derived.Test.YtcgadmeagbcbnaaDoorIdxT
namespace Go.Proofs.YtcgadmeagbcbnaaDoor
section
open Go.RowKit Go.Shelf
attribute [local irreducible] Calls

theorem has1_any (d : Nat) (hd : 1 ≤ d) (n : Nat) (b : IB) (sm : ISm b) (cd : Int) (Bc Bx : Nat) (w1 : World) (hP : HP n b cd Bc Bx w1) :
    HandsOverB d Tryd.prog 59 #[.pointer (some ⟨Bc, 0, none⟩), .pointer (some ⟨Bx, 0, none⟩)] (fun x : Int × Int => #[.agg #[.int .i64 x.1, .int .i64 x.2]]) (KpOf (HP n b cd Bc Bx)) (absOf b.abs cd) w1 := by
  by_cases h : cd < 0 ∨ (b.abs.length : Int) ≤ cd
  · rw [absOf_out h]; exact has1_none d n b cd Bc Bx h w1 hP
  · obtain ⟨i, rfl⟩ := Int.eq_ofNat_of_zero_le (show 0 ≤ cd by omega)
    rw [absOf_in (by omega)]; exact has1_in d hd n b i (by omega) sm Bc Bx w1 hP
theorem absOf_wf {b : IB} (sm : ISm b) {cd : Int} {k : Nat} {x : Int × Int} (hx : (absOf b.abs cd)[k]? = some x) : wf2 x.1 x.2 := by
  have hm := List.mem_of_getElem? hx
  unfold absOf at hm
  split at hm
  · rename_i h; exact sm.wf _ (by omega) x hm
  · cases hm
theorem absOf_len {b : IB} (sm : ISm b) (cd : Int) : (absOf b.abs cd).length ≤ 5 := by
  unfold absOf
  split
  · rename_i h; exact sm.each _ (by omega)
  · simp
def isCellsAt (W : World) (j : Nat) : Prop := ∃ cs t f, W.heap[j]? = some (.cells cs t f)
theorem TrS.cellsAt {w0 w : World} {T : Nat} {O : Nat → Prop} {cs : List Int} {hs : List (Int × Int)} (h : TrS w0 w T O cs hs) {j : Nat} (hj : O j) : isCellsAt w j := by
  obtain ⟨_, _, _, ao, bo, ca, cb, rfl, h4⟩ := h
  have own : ∀ {base : Nat} {e : TypeId} {size n cap : Nat} {a : Option Addr} {xs : List Value}, w.ownsRow base e size (.slice a n cap) n xs → ∀ ad, a = some ad → ad.block = j → isCellsAt w j := by
    intro base e size n cap a xs ho ad had hb
    rcases ho.2 with ⟨h1, _⟩ | ⟨g, cp, cur, hv, _, hg, _⟩
    · rw [had] at h1; cases h1
    · rw [had] at hv; injection hv with h1; injection h1 with h1
      rw [h1] at hb
      subst hb
      exact ⟨_, _, _, hg⟩
  rcases hj with rfl | hk | hk
  · exact ⟨_, _, _, h4.blk⟩
  · obtain ⟨ad, h1, h2⟩ : ∃ ad, ao = some ad ∧ ad.block = j := by
      cases ao with
      | none => cases hk
      | some ad => exact ⟨ad, rfl, by injection hk⟩
    exact own h4.cells ad h1 h2
  · obtain ⟨ad, h1, h2⟩ : ∃ ad, bo = some ad ∧ ad.block = j := by
      cases bo with
      | none => cases hk
      | some ad => exact ⟨ad, rfl, by injection hk⟩
    exact own h4.chs ad h1 h2
section
variable {w0 w W W' : World} {col : Nat → Nat} {c k n : Nat} {b : IB} {q : List Int × List (Int × Int)} {m m' : IM} {E E' : Nat → Prop}
theorem IS.tight (h : IS w0 W col c b k q m) : ∃ col', IS w0 W col' c b k q m ∧ ∀ j, col' j = c → col j = c ∧ j < W.heap.size ∧ (b.has j ∨ isCellsAt W j) := by
  classical
  obtain ⟨O, p, h1, h2⟩ := h
  refine ⟨fun j => if O j ∨ b.has j then c else c + 1, ⟨O, p, ⟨fun j hj => if_pos (.inl hj), fun j hj => if_pos (.inr hj), h1.t, h1.o, h1.f, h1.h, h1.g⟩, h2⟩, fun j hj => ?_⟩
  by_cases e : O j ∨ b.has j
  · rcases e with e | e
    · exact ⟨h1.oc j e, (h1.t.base e).2, .inr (h1.t.cellsAt e)⟩
    · exact ⟨h1.bc j e, h1.f.isLt e, .inl e⟩
  · simp only [if_neg e] at hj; omega
theorem IS.recolor {col2 : Nat → Nat} (h : IS w0 W col c b k q m) (hc : ∀ j, col j = c → col2 j = c) : IS w0 W col2 c b k q m := by
  obtain ⟨O, p, h1, h2⟩ := h
  exact ⟨O, p, ⟨fun j hj => hc j (h1.oc j hj), fun j hj => hc j (h1.bc j hj), h1.t, h1.o, h1.f, h1.h, h1.g⟩, h2⟩
/-- The blocks E, and all that are no cells, are not the index's. -/
structure IH (w0 w : World) (col : Nat → Nat) (c : Nat) (b : IB) (E : Nat → Prop) (W : World) (k : Nat) (q : List Int × List (Int × Int)) (m : IM) : Prop where
  st : ∃ col1, IS w0 W col1 c b k q m ∧ (∀ j, col1 j = c → recol w.heap.size col c j = c) ∧ (∀ j, E j → col1 j ≠ c) ∧ ∀ j, w.heap.size ≤ j → col1 j = c → isCellsAt W j
  mv : Moved w W (fun j => col j = c)
  lt : ∀ j, b.has j → j < w.heap.size
  el : ∀ j, E j → w.heap.size ≤ j ∧ j < W.heap.size
  zl : w0.heap.size ≤ w.heap.size
theorem IH.start (h : IS w0 w col c b k q m) : IH w0 w col c b (fun _ => False) w k q m := by
  obtain ⟨col', h1, h2⟩ := h.tight
  exact ⟨⟨col', h1, fun j hj => by rw [recol_lt (h2 j hj).2.1]; exact (h2 j hj).1, fun j hj => hj.elim, fun j hj hc => absurd (h2 j hc).2.1 (by omega)⟩, Moved.refl _ _, fun j hj => h.fo.isLt hj, fun j hj => hj.elim, h.bel.size⟩
theorem IH.mono (h : IH w0 w col c b E W k q m) (hn : k ≤ n) : IH w0 w col c b E W n q m := by
  obtain ⟨⟨col1, h1, h2⟩, h3, h4, h5, h8⟩ := h
  exact ⟨⟨col1, h1.mono hn, h2⟩, h3, h4, h5, h8⟩
theorem IH.weak (h : IH w0 w col c b E W k q m) (hE : ∀ j, E' j → E j) : IH w0 w col c b E' W k q m := by
  obtain ⟨⟨col1, h1, h2, h6, h7⟩, h3, h4, h5, h8⟩ := h
  exact ⟨⟨col1, h1, h2, fun j hj => h6 j (hE j hj), h7⟩, h3, h4, fun j hj => h5 j (hE j hj), h8⟩
theorem IH.size (h : IH w0 w col c b E W k q m) : w.heap.size ≤ W.heap.size := h.mv.size
theorem IH.fo (h : IH w0 w col c b E W k q m) : IxF W b := by obtain ⟨⟨_, h1, _⟩, _⟩ := h; exact h1.fo
theorem IH.sm (h : IH w0 w col c b E W k q m) : ISm b := by obtain ⟨⟨_, h1, _⟩, _⟩ := h; exact h1.sm
/-- New memory is not the index's. -/
theorem IH.below (h : IH w0 w col c b E W k q m) (hb : Below W.heap.size W W') : IH w0 w col c b (fun j => E j ∨ (W.heap.size ≤ j ∧ j < W'.heap.size)) W' k q m := by
  have hs := h.size
  obtain ⟨⟨col1, h1, h2, h6, h7⟩, h3, h4, h5, h8⟩ := h
  have key : ∀ j, recol W.heap.size col1 (c + 1) j = c → j < W.heap.size ∧ col1 j = c := fun j hj => by
    by_cases hl : j < W.heap.size
    · rw [recol_lt hl] at hj; exact ⟨hl, hj⟩
    · rw [recol_ge (by omega)] at hj; omega
  refine ⟨⟨_, h1.below hb (c + 1), fun j hj => h2 j (key j hj).2, fun j hj hc => ?_, fun j hj hc => ?_⟩, h3.trans (Moved.of_below hb (fun _ => False)) (fun _ hf => hf.elim), h4, fun j hj => ?_, h8⟩
  · rcases hj with hj | hj
    · exact h6 j hj (key j hc).2
    · have := (key j hc).1; omega
  · obtain ⟨cs, t, f, hx⟩ := h7 j hj (key j hc).2
    exact ⟨cs, t, f, (hb.block j (key j hc).1).trans hx⟩
  · have := hb.size
    rcases hj with hj | hj
    · have := h5 j hj; omega
    · omega
/-- A block that is no cells has turned. -/
theorem IH.grown {row : Option Nat} (h : IH w0 w col c b E W k q m) (hg : W.grownBy W' row) (hr : ∀ r, row = some r → w.heap.size ≤ r ∧ ∃ o : Obj, W.heap[r]? = some o ∧ o.isCells = false) : IH w0 w col c b E W' k q m := by
  have hs := h.size
  obtain ⟨⟨col1, h1, h2, h6, h7⟩, h3, h4, h5, h8⟩ := h
  have hne : ∀ r, row = some r → col1 r ≠ c := fun r e hc => by
    obtain ⟨hl, o, ho, hoc⟩ := hr r e
    obtain ⟨cs, t, f, hx⟩ := h7 r hl hc
    rw [hx] at ho
    injection ho with ho
    rw [← ho] at hoc
    cases hoc
  have hmv : Moved W W' (fun j => row = some j) := ⟨hg.os, hg.tape, hg.output, hg.size, fun j hj hn => hg.block j hj (fun e => hn e.symm)⟩
  obtain ⟨O, p, g1, g2⟩ := h1
  have hbel : Below w0.heap.size w0 W' := g1.t.bel.trans (hmv.below (fun j hj => Nat.le_trans h8 (hr j hj).1) g1.t.bel.size)
  refine ⟨⟨col1, ⟨O, p, ⟨g1.oc, g1.bc, g1.t.moved hmv hbel (fun j hj hrow => hne j hrow (g1.oc j hj)), g1.o, g1.f.moved hmv (fun j hj hrow => hne j hrow (g1.bc j hj)), g1.h, g1.g⟩, g2⟩, h2, h6, fun j hj hc => ?_⟩,
    h3.trans hmv (fun j hj => .inr (hr j hj).1), h4, fun j hj => ⟨(h5 j hj).1, Nat.lt_of_lt_of_le (h5 j hj).2 hg.size⟩, h8⟩
  obtain ⟨cs, t, f, hx⟩ := h7 j hj hc
  exact ⟨cs, t, f, (hmv.block j (Array.getElem?_eq_some_iff.1 hx).1 (fun e => hne j e hc)).trans hx⟩
/-- A call that wrote the index: what is so behind it. -/
theorem IH.next (h : IH w0 w col c b E W k q m) : ∃ col1, IS w0 W col1 c b k q m ∧ ∀ (W' : World) (n : Nat) (m' : IM), ISN w0 W W' col1 c b n q m' →
    IH w0 w col c b E W' n q m' ∧ KeepsFrom w.heap.size W W' ∧ (∀ j, E j → W'.heap[j]? = W.heap[j]?) := by
  have hs := h.size
  obtain ⟨⟨col1, h1, h2, h6, h7⟩, h3, h4, h5, h8⟩ := h
  refine ⟨col1, h1, fun W' n m' hN => ?_⟩
  obtain ⟨col2, k1, k2⟩ := hN.1.tight
  have hm := hN.2
  refine ⟨⟨⟨col2, k1, fun j hj => ?_, fun j hj hc => ?_, fun j hj hc => ?_⟩, h3.trans hm (fun j hj => ?_), h4, fun j hj => ⟨(h5 j hj).1, Nat.lt_of_lt_of_le (h5 j hj).2 hm.size⟩, h8⟩, ⟨hm.size, fun j o hj ho hoc => ?_⟩, fun j hj => ?_⟩
  · have := (k2 j hj).1
    by_cases hl : j < W.heap.size
    · rw [recol_lt hl] at this; exact h2 j this
    · exact recol_ge (by omega)
  · have := (k2 j hc).1
    rw [recol_lt (h5 j hj).2] at this
    exact h6 j hj this
  · rcases (k2 j hc).2.2 with e | e
    · exact absurd (h4 j e) (by omega)
    · exact e
  · have := h2 j hj
    by_cases hl : j < w.heap.size
    · rw [recol_lt hl] at this; exact .inl this
    · exact .inr (by omega)
  · refine (hm.block j (Array.getElem?_eq_some_iff.1 ho).1 fun hc => ?_).trans ho
    obtain ⟨cs, t, f, hx⟩ := h7 j hj hc
    rw [hx] at ho
    injection ho with ho
    rw [← ho] at hoc
    cases hoc
  · exact hm.block j (h5 j hj).2 (h6 j hj)
theorem IH.fin (h : IH w0 w col c b E W k q m) : ISN w0 w W col c b k q m := by
  obtain ⟨⟨col1, h1, h2, h6, h7⟩, h3, h4, h5, h8⟩ := h
  exact ⟨h1.recolor h2, h3⟩
end
end
section
open Go.RowKit Go.Shelf
attribute [local irreducible] Calls
attribute [local go_sem] Oper.semAt_some

/-- Between the rounds of a loop over keys. -/
structure HL (w0 w : World) (col : Nat → Nat) (c : Nat) (b : IB) (i : Int) (cd : Int) (Bx Bc : Nat) (D : Option Nat) (W : World) (k : Nat) (q : List Int × List (Int × Int)) (m : IM) : Prop where
  ih : IH w0 w col c b (fun j => j = w.heap.size ∨ j = w.heap.size + 1 ∨ j = Bx ∨ j = Bc) W k q m
  b0 : Boxed W w.heap.size 28 (.pointer (some ⟨b.X, 0, none⟩))
  b1 : Boxed W (w.heap.size + 1) 3 (.int .i64 i)
  hp : HP w.heap.size b cd Bc Bx W
  dd : ∀ r, D = some r → w.heap.size ≤ r ∧ W.heap[r]? = some (.deferred (some []))
section
variable {w0 w W W' : World} {col : Nat → Nat} {c k n : Nat} {b : IB} {q : List Int × List (Int × Int)} {m m' : IM} {i cd : Int} {Bx Bc : Nat} {D : Option Nat}
theorem HL.below (h : HL w0 w col c b i cd Bx Bc D W k q m) (hb : Below W.heap.size W W') : HL w0 w col c b i cd Bx Bc D W' k q m :=
  ⟨(h.ih.below hb).weak (fun _ hj => .inl hj), (hb.block _ h.b0.lt).trans h.b0, (hb.block _ h.b1.lt).trans h.b1, h.hp.below hb, fun r hr => ⟨(h.dd r hr).1, (hb.block r (Array.getElem?_eq_some_iff.1 (h.dd r hr).2).1).trans (h.dd r hr).2⟩⟩
theorem HL.grown {row : Option Nat} {N : Nat} (h : HL w0 w col c b i cd Bx Bc D W k q m) (hN : w.heap.size ≤ N) (hD : ∀ r, D = some r → r < N) (hg : W.grownBy W' row) (hr : ∀ r, row = some r → N ≤ r ∧ ∃ o : Obj, W.heap[r]? = some o ∧ o.isCells = false) : HL w0 w col c b i cd Bx Bc D W' k q m :=
  ⟨h.ih.grown hg (fun r e => ⟨Nat.le_trans hN (hr r e).1, (hr r e).2⟩), ownFrom_boxed (fun _ : Unit => _) () W W' row h.b0 hg hr, ownFrom_boxed (fun _ : Unit => _) () W W' row h.b1 hg hr,
    ⟨ownFrom_boxed (fun _ : Unit => _) () W W' row h.hp.bc hg hr, ownFrom_boxed (fun _ : Unit => _) () W W' row h.hp.bx hg hr, h.hp.f.block (fun j hj => hg.block j (h.hp.f.isLt hj) (fun e => by have := (hr j e.symm).1; have := h.hp.lt j hj; omega)) hg.size, h.hp.lt⟩,
    fun r e => ⟨(h.dd r e).1, (hg.block r (Array.getElem?_eq_some_iff.1 (h.dd r e).2).1 (fun e' => by have := (hr r e'.symm).1; have := hD r e; omega)).trans (h.dd r e).2⟩⟩
theorem HL.mono (h : HL w0 w col c b i cd Bx Bc D W k q m) (hn : k ≤ n) : HL w0 w col c b i cd Bx Bc D W n q m := ⟨h.ih.mono hn, h.b0, h.b1, h.hp, h.dd⟩
theorem HL.next (h : HL w0 w col c b i cd Bx Bc D W k q m) : ∃ col1, IS w0 W col1 c b k q m ∧ ∀ (W' : World) (n : Nat) (m' : IM), ISN w0 W W' col1 c b n q m' →
    HL w0 w col c b i cd Bx Bc D W' n q m' ∧ KeepsFrom w.heap.size W W' := by
  obtain ⟨col1, h1, h2⟩ := h.ih.next
  refine ⟨col1, h1, fun W' n m' hN => ?_⟩
  obtain ⟨k1, k2, k3⟩ := h2 _ _ _ hN
  exact ⟨⟨k1, (k3 _ (.inl rfl)).trans h.b0, (k3 _ (.inr (.inl rfl))).trans h.b1, ⟨(k3 _ (.inr (.inr (.inr rfl)))).trans h.hp.bc, (k3 _ (.inr (.inr (.inl rfl)))).trans h.hp.bx, k1.fo, h.hp.lt⟩,
    fun r e => ⟨(h.dd r e).1, k2.same r _ (h.dd r e).1 (h.dd r e).2 rfl⟩⟩, k2⟩
theorem hl_start (h : IS w0 w col c b k q m) (nu : Nat) (cd i : Int) {W : World} (hW : (((((w.alloc (.cells #[.pointer (some ⟨b.X, 0, none⟩)] 28)).alloc (.cells #[.int .i64 i] 3)).alloc (.cells #[.pointer (some ⟨b.X, 0, none⟩)] 28)).alloc (.cells #[.int .i64 cd] 3)).drewN nu) = W) :
    HL w0 w col c b i cd (w.heap.size + 1 + 1) (w.heap.size + 1 + 1 + 1) none W k q m ∧ W.heap.size = w.heap.size + 1 + 1 + 1 + 1 := by
  have hb1 := fb_alloc (Below.refl _ w) (.cells #[.pointer (some ⟨b.X, 0, none⟩)] 28)
  have hb2 := fb_alloc hb1 (.cells #[.int .i64 i] 3)
  have hb4 := fb_alloc hb2 (.cells #[.pointer (some ⟨b.X, 0, none⟩)] 28)
  have hb5 := fb_drewN (fb_alloc hb4 (.cells #[.int .i64 cd] 3)) nu
  have x0 := Boxed.new w 28 (.pointer (some ⟨b.X, 0, none⟩))
  have x1 := Boxed.new (w.alloc (.cells #[.pointer (some ⟨b.X, 0, none⟩)] 28)) 3 (.int .i64 i)
  have x2 := Boxed.new ((w.alloc (.cells #[.pointer (some ⟨b.X, 0, none⟩)] 28)).alloc (.cells #[.int .i64 i] 3)) 28 (.pointer (some ⟨b.X, 0, none⟩))
  have x3 := Boxed.new (((w.alloc (.cells #[.pointer (some ⟨b.X, 0, none⟩)] 28)).alloc (.cells #[.int .i64 i] 3)).alloc (.cells #[.pointer (some ⟨b.X, 0, none⟩)] 28)) 3 (.int .i64 cd)
  simp only [World.size_alloc] at x1 x2 x3
  have y0 := Boxed.alloc (Boxed.alloc (Boxed.alloc x0 (.cells #[.int .i64 i] 3)) (.cells #[.pointer (some ⟨b.X, 0, none⟩)] 28)) (.cells #[.int .i64 cd] 3)
  have y1 := Boxed.alloc (Boxed.alloc x1 (.cells #[.pointer (some ⟨b.X, 0, none⟩)] 28)) (.cells #[.int .i64 cd] 3)
  have y2 := Boxed.alloc x2 (.cells #[.int .i64 cd] 3)
  have hs : W.heap.size = w.heap.size + 1 + 1 + 1 + 1 := by rw [← hW]; simp [World.drewN]
  have dr : ∀ {u : World} {B : Nat} {t : TypeId} {v : Value}, Boxed u B t v → Boxed (u.drewN nu) B t v := fun h => h
  have z0 := dr y0
  have z1 := dr y1
  have z2 := dr y2
  have z3 := dr x3
  rw [hW] at hb5 z0 z1 z2 z3
  exact ⟨⟨((IH.start h).below hb5).weak (fun _ hj => .inr (by rcases hj with rfl | rfl | rfl | rfl <;> omega)), z0, z1, ⟨z3, z2, h.fo.below hb5, fun j hj => h.fo.isLt hj⟩, fun r e => by cases e⟩, hs⟩
theorem HL.deferred (h : HL w0 w col c b i cd Bx Bc none W k q m) {r : Nat} (hr : w.heap.size ≤ r) (hd : W.heap[r]? = some (.deferred (some []))) : HL w0 w col c b i cd Bx Bc (some r) W k q m :=
  ⟨h.ih, h.b0, h.b1, h.hp, fun r' e => by cases e; exact ⟨hr, hd⟩⟩
theorem hl_restart (h : HL w0 w col c b i cd Bx Bc D W k q m) (nu : Nat) (cd2 : Int) (hW : (((W.alloc (.cells #[.pointer (some ⟨b.X, 0, none⟩)] 28)).alloc (.cells #[.int .i64 cd2] 3)).drewN nu) = W') :
    HL w0 w col c b i cd2 W.heap.size (W.heap.size + 1) D W' k q m ∧ W'.heap.size = W.heap.size + 1 + 1 := by
  have hs0 := h.ih.size
  have hb1 := fb_alloc (Below.refl _ W) (.cells #[.pointer (some ⟨b.X, 0, none⟩)] 28)
  have hb2 := fb_drewN (fb_alloc hb1 (.cells #[.int .i64 cd2] 3)) nu
  have x0 := Boxed.new W 28 (.pointer (some ⟨b.X, 0, none⟩))
  have x1 := Boxed.new (W.alloc (.cells #[.pointer (some ⟨b.X, 0, none⟩)] 28)) 3 (.int .i64 cd2)
  simp only [World.size_alloc] at x1
  have y0 := Boxed.alloc x0 (.cells #[.int .i64 cd2] 3)
  have hs : W'.heap.size = W.heap.size + 1 + 1 := by rw [← hW]; simp [World.drewN]
  have dr : ∀ {u : World} {B : Nat} {t : TypeId} {v : Value}, Boxed u B t v → Boxed (u.drewN nu) B t v := fun h => h
  have z0 := dr y0
  have z1 := dr x1
  rw [hW] at hb2 z0 z1
  have h2 := h.below hb2
  refine ⟨⟨(h.ih.below hb2).weak (fun _ hj => ?_), h2.b0, h2.b1, ⟨z1, z0, h2.hp.f, h.hp.lt⟩, h2.dd⟩, hs⟩
  rcases hj with rfl | rfl | rfl | rfl
  · exact .inl (.inl rfl)
  · exact .inl (.inr (.inl rfl))
  · exact .inr (by omega)
  · exact .inr (by omega)
theorem delI_in (S : List Nat) (i : Nat) (hi : i < 256) : delI S (i : Int) = delB S i := by unfold delI; rw [if_pos ⟨by omega, by omega⟩, Int.toNat_natCast]
theorem addI_in (S : List Nat) (i : Nat) (hi : i < 256) : addI S (i : Int) = addB S i := by unfold addI; rw [if_pos ⟨by omega, by omega⟩, Int.toNat_natCast]
theorem take_fold {α β : Type} (f : β → α → β) (l : List α) (k : Nat) (x : α) (h : l[k]? = some x) (z : β) : (l.take (k + 1)).foldl f z = f ((l.take k).foldl f z) x := by
  obtain ⟨hk, rfl⟩ := List.getElem?_eq_some_iff.1 h
  rw [List.take_succ_eq_append_getElem hk, List.foldl_append]
  rfl
set_option maxRecDepth 100000 in
set_option maxHeartbeats 4000000 in
theorem hold_any (h : IS w0 w col c b k q m) (hk : k ≤ 800000000) (i : Nat) (hi : i < 256) (v : Int) (hv0 : 0 ≤ v) (hv1 : v ≤ 40) (hr : 0 ≤ m.H.getD i 0 ∧ m.H.getD i 0 ≤ 40) :
    Calls Tryd.prog 37 #[.pointer (some ⟨b.X, 0, none⟩), .int .i64 (i : Int), .int .i64 v] w fun e w' => e = .returned (.tuple #[]) ∧ ISN w0 w w' col c b (k + 50) q (holdM (absOf b.abs (m.H.getD i 0 - 1)) (absOf b.abs (v - 1)) i v m) := by
  have hb2 := fb_alloc (fb_alloc (Below.refl _ w) (.cells #[.pointer (some ⟨b.X, 0, none⟩)] 28)) (.cells #[.int .i64 (i : Int)] 3)
  have HCd : Hid (∀ n, Calls Tryd.prog 20 #[.pointer (some ⟨b.X, 0, none⟩), .int .i64 (i : Int)] (((w.alloc (.cells #[.pointer (some ⟨b.X, 0, none⟩)] 28)).alloc (.cells #[.int .i64 (i : Int)] 3)).drewN n) fun e w' => e = .returned (.int .i64 (m.H.getD i 0 - 1)) ∧ ∃ n', w' = ((w.alloc (.cells #[.pointer (some ⟨b.X, 0, none⟩)] 28)).alloc (.cells #[.int .i64 (i : Int)] 3)).drewN n') :=
    Lib.hid fun n => (icard_yes (h.below (fb_drewN hb2 n) (c + 1)) i hi hr).mono fun e w' ⟨h1, n', h2⟩ => ⟨h1, n + n', by rw [← h2]; simp [World.drewN, Nat.add_assoc]⟩
  obtain ⟨cd, hcd⟩ : ∃ cd, m.H.getD i 0 - 1 = cd := ⟨_, rfl⟩
  rw [hcd] at HCd ⊢
  have H := Lib.hid h
  have HR := Lib.hid (And.intro hr hcd)
  clear h hr hcd hb2
  refine (callsIn_wide (n := 9)).1 ?_
  refine callsIn_of_wp_marks Tryd.func37 rfl trivial ?_ rfl
  simp only [Tryd.ntmps37, List.size_toArray, List.length_cons, List.length_nil, Nat.reduceAdd, Nat.reduceSub, Array.replicate_succ, Array.replicate_zero, List.push_toArray, List.append_toArray, List.nil_append, List.cons_append]
  gi_wp2_with fail
  refine (wpIn_wide (n := _)).2 ?_
  refine wp_region_drewN_tail 4 (by kernel_rfl) (by kernel_rfl) ?_
  simp only [List.take_succ_cons, List.take_zero, List.drop_succ_cons, List.drop_zero]
  repeat (go_big_quiet_step ((go_at_call 20; exact HCd.out _)))
  refine wpQuiet_nil ?_
  intro _ hw'
  obtain ⟨nu, hw''⟩ := hw'
  subst hw''
  go_wp2_with (go_at_call 50; refine (has_any _ _ b.X cd rfl rfl _).mono ?_; rintro e w' ⟨rfl, rfl⟩)
  gi_wp2
  obtain ⟨W0, hW0⟩ : ∃ W0, (((((w.alloc (.cells #[.pointer (some ⟨b.X, 0, none⟩)] 28)).alloc (.cells #[.int .i64 (i : Int)] 3)).alloc (.cells #[.pointer (some ⟨b.X, 0, none⟩)] 28)).alloc (.cells #[.int .i64 cd] 3)).drewN nu) = W0 := ⟨_, rfl⟩
  have HS := Lib.hid (hl_start H.out nu cd i hW0)
  rw [hW0]
  clear HCd hW0
  refine wpIn_throughB_box (gf := 59) (lb := #[.pointer (some ⟨w.heap.size + 1 + 1 + 1, 0, none⟩), .pointer (some ⟨w.heap.size + 1 + 1, 0, none⟩)]) rfl (enters_of Tryd.func59 (by kernel_rfl) rfl) (w0 := W0) (Below.refl _ _)
    (has1_any 8 (by omega) w.heap.size b H.out.sm cd (w.heap.size + 1 + 1 + 1) (w.heap.size + 1 + 1) W0 HS.out.1.hp) (fun h k => kpOf_t h k) (fun W l o o' hl ho hc _ hp => hp.put o' (by have := HS.out.2; omega) ho hc) (fun W o hp => hp.below (fb_alloc (Below.refl _ _) o)) (fun _ => rfl)
    (fun j W => HL w0 w col c b i cd (w.heap.size + 1 + 1) (w.heap.size + 1 + 1 + 1) none W (k + 4 * j) q ⟨m.H, ((absOf b.abs cd).take j).foldl (delK i) m.Z⟩)
    (fun _ A B row hs' hg hr => hs'.grown (N := W0.heap.size) (by rw [HS.out.2]; omega) (fun r e => by cases e) hg hr) (fun _ W1 W2 h1 hb => h1.below hb) (fun _ W h1 => by rw [HS.out.2]; have := h1.hp.bc.lt; omega) (by simpa using HS.out.1) 6 86 (fun x => [.int .i64 x.1, .int .i64 x.2]) ?FR ?hfr ?assign ?body ?done
  case hfr =>
    intro x v
    simp
    rfl
  case assign =>
    intro l x W K hK
    have HK := Lib.hid hK
    clear hK
    gi_wp2
    exact HK.out
  case body =>
    intro l j x Bc W hx hst hBc hA
    obtain ⟨y0, y1⟩ := x
    have hA0 : W.cell? ⟨Bc, 0, none⟩ = some (.int .i64 y0) := hA.cell 0
    have hA1 : W.cell? ⟨Bc, 1, none⟩ = some (.int .i64 y1) := hA.cell 1
    have d0 := hst.b0.cell
    have d3 : W.cell? ⟨b.X, 3, none⟩ = some (.map (some b.M)) := hst.hp.f.x.cell 3
    have hwf : wf2 y0 y1 := absOf_wf hst.ih.sm hx
    have hfold := take_fold (delK i) (absOf b.abs cd) j (y0, y1) hx m.Z
    have hj5 : j < 5 := by have := absOf_len hst.ih.sm cd; have := (List.getElem?_eq_some_iff.1 hx).1; omega
    have HW := Lib.hid hst
    dsimp only
    by_cases hx0 : kx y0 y1 = 0
    · have hl : ∀ n, (Instr.lookup 82 (.map (some b.M)) (.agg #[.int .i64 y0, .int .i64 y1]) true).run Tryd.prog (W.drewN n) = .ok (.tuple #[.int .i64 0, .bool false]) (W.drewN n) := fun n => (hst.hp.f.below (fb_drewN (Below.refl _ W) n)).lookNo hwf hx0
      have HF := Lib.hid (show ((absOf b.abs cd).take (j + 1)).foldl (delK i) m.Z = ((absOf b.abs cd).take j).foldl (delK i) m.Z from by rw [hfold]; unfold delK; rw [if_pos hx0])
      clear hst hx hfold hA hwf hx0
      gi_wp2
      refine wpIn_round_drewN (by kernel_rfl) (by kernel_rfl) (by kernel_rfl) ?_
      repeat (go_big_quiet_step (fail))
      refine wpQuiet_nil ?_
      intro _ hw'
      obtain ⟨nq, hw''⟩ := hw'
      subst hw''
      rw [inQ_normal]
      gi_wp2
      exact ⟨(keepsO_drewN W nq).from _, fun hp => hp.below (fb_drewN (Below.refl _ W) nq), by dsimp only; rw [HF.out]; exact (HW.out.below (fb_drewN (Below.refl _ W) nq)).mono (by omega)⟩
    · obtain ⟨a, ha⟩ : ∃ a, b.base + 256 + 4 * kx y0 y1 = a := ⟨_, rfl⟩
      have hl : ∀ n, (Instr.lookup 82 (.map (some b.M)) (.agg #[.int .i64 y0, .int .i64 y1]) true).run Tryd.prog (W.drewN n) = .ok (.tuple #[.int .i64 (a : Int), .bool true]) (W.drewN n) := fun n => by
        have := (hst.hp.f.below (fb_drewN (Below.refl _ W) n)).lookYes hwf hx0
        rw [ha] at this; exact this
      have HF := Lib.hid (show ((absOf b.abs cd).take (j + 1)).foldl (delK i) m.Z = upd (((absOf b.abs cd).take j).foldl (delK i) m.Z) (kx y0 y1) (delI ((((absOf b.abs cd).take j).foldl (delK i) m.Z) (kx y0 y1)) (i : Int)) from by rw [hfold]; unfold delK; rw [if_neg hx0, delI_in _ i hi])
      have HA := Lib.hid ha
      clear hst hx hfold hA hwf hx0 ha
      gi_wp2
      refine wpIn_round_drewN (by kernel_rfl) (by kernel_rfl) (by kernel_rfl) ?_
      repeat (go_big_quiet_step (fail))
      refine wpQuiet_nil ?_
      intro _ hw'
      obtain ⟨nq, hw''⟩ := hw'
      subst hw''
      rw [inQ_normal]
      obtain ⟨col1, h1, h2⟩ := (HW.out.below (fb_drewN (Below.refl _ W) nq)).next
      have HC := Lib.hid (change_drop h1 (by omega) (kx y0 y1) a (kx_lt _ _) HA.out (w.heap.size + 1) (i : Int) ((HW.out.below (fb_drewN (Below.refl _ W) nq)).b1.cell))
      have HN := Lib.hid h2
      clear h1 h2 hl
      gi_wp2_with (refine ⟨trivial, ?_⟩; gi_at_call 39; refine (CallsIn.inRound l (callsIn_wide.2 HC.out)).mono ?_; rintro e W3 ⟨rfl, hN⟩)
      have H5 := Lib.hid (HN.out _ _ _ hN)
      clear hN
      gi_wp2
      exact ⟨⟨H5.out.2.size, fun k o hk ho hc => H5.out.2.same k o (by have := HS.out.2; omega) ho hc⟩, fun _ => H5.out.1.hp, by dsimp only; rw [HF.out]; exact H5.out.1.mono (by omega)⟩
  case done =>
    intro D W hD hst hK
    have hD2 : w.heap.size ≤ D := by have := HS.out.2; omega
    have hlen := absOf_len H.out.sm cd
    rw [List.take_length] at hst
    obtain ⟨Z1, hZ1⟩ : ∃ Z1, (absOf b.abs cd).foldl (delK i) m.Z = Z1 := ⟨_, rfl⟩
    rw [hZ1] at hst
    have HW := Lib.hid ((hst.mono (n := k + 20) (by omega)).deferred hD2 hK)
    have HZ1 := Lib.hid hZ1
    clear hst hK hZ1 hlen
    have d0 := HW.out.b0.cell
    have d1 := HW.out.b1.cell
    have e0 : W.cell? ⟨b.X, 0, none⟩ = some (.pointer (some ⟨b.T, 0, none⟩)) := HW.out.hp.f.x.cell 0
    have e2 : W.cell? ⟨b.X, 2, none⟩ = some (.int .i64 (b.base : Int)) := HW.out.hp.f.x.cell 2
    have hbb := H.out.sm.base
    have hw1 : IntKind.i64.wrap ((b.base : Int) + (i : Int)) = (b.base : Int) + (i : Int) := IntWalk.i64_in _ (by omega)
    clear hbb
    gi_wp2_with fail
    refine (wpIn_wide (n := _)).2 ?_
    refine wp_region_drewN_tail 11 (by kernel_rfl) (by kernel_rfl) ?_
    simp only [List.take_succ_cons, List.take_zero, List.drop_succ_cons, List.drop_zero]
    repeat (go_big_quiet_step (fail))
    refine wpQuiet_nil ?_
    intro _ hw'
    obtain ⟨nq, hw''⟩ := hw'
    subst hw''
    obtain ⟨col1, h1, h2⟩ := (HW.out.below (fb_drewN (Below.refl _ W) nq)).next
    have HC := Lib.hid (is_set (m' := ⟨m.H.set i v, Z1⟩) h1 (by omega) ((b.base : Int) + (i : Int)) v (by omega) (fun cs hcs => by rw [← Int.natCast_add]; exact hcs.setHeld hi v))
    have HN := Lib.hid h2
    clear h1 h2 d0 d1 e0 e2 hw1
    go_wp2_with (go_at_call 52; refine HC.out.mono ?_; rintro e W3 ⟨rfl, hN⟩)
    have H3 := Lib.hid (HN.out _ _ _ hN).1
    clear hN HC HN HW
    have d0 := H3.out.b0.cell
    have d1 := H3.out.b1.cell
    have HCd : Hid (∀ n, Calls Tryd.prog 20 #[.pointer (some ⟨b.X, 0, none⟩), .int .i64 (i : Int)] (W3.drewN n) fun e w' => e = .returned (.int .i64 (v - 1)) ∧ ∃ n', w' = W3.drewN n') := by
      refine Lib.hid fun n => ?_
      obtain ⟨col2, h1, _⟩ := (H3.out.below (fb_drewN (Below.refl _ W3) n)).next
      have hH : (m.H.set i v).getD i 0 = v := by
        rw [getD_setI _ _ _ _ (by rw [H.out.hl]; exact hi), if_pos rfl]
      have := icard_yes h1 i hi (by show 0 ≤ (m.H.set i v).getD i 0 ∧ _; rw [hH]; exact ⟨hv0, hv1⟩)
      refine this.mono fun e w' ⟨h1, n', h2⟩ => ⟨?_, n + n', by rw [← h2]; simp [World.drewN, Nat.add_assoc]⟩
      rw [h1]
      show Ending.returned (.int .i64 ((m.H.set i v).getD i 0 - 1)) = _
      rw [hH]
    gi_wp2_with fail
    refine (wpIn_wide (n := _)).2 ?_
    refine wp_region_drewN_tail 4 (by kernel_rfl) (by kernel_rfl) ?_
    simp only [List.take_succ_cons, List.take_zero, List.drop_succ_cons, List.drop_zero]
    repeat (go_big_quiet_step ((go_at_call 20; exact HCd.out _)))
    refine wpQuiet_nil ?_
    intro _ hw'
    obtain ⟨nu2, hw''⟩ := hw'
    subst hw''
    clear d0 d1
    go_wp2_with (go_at_call 50; refine (has_any _ _ b.X (v - 1) rfl rfl _).mono ?_; rintro e w' ⟨rfl, rfl⟩)
    gi_wp2
    obtain ⟨W5, hW5⟩ : ∃ W5, (((W3.alloc (.cells #[.pointer (some ⟨b.X, 0, none⟩)] 28)).alloc (.cells #[.int .i64 (v - 1)] 3)).drewN nu2) = W5 := ⟨_, rfl⟩
    have HS2 := Lib.hid (hl_restart H3.out nu2 (v - 1) hW5)
    rw [hW5]
    have hD3 : D < W3.heap.size := (Array.getElem?_eq_some_iff.1 (H3.out.dd D rfl).2).1
    have hW3 : w.heap.size ≤ W3.heap.size := H3.out.ih.size
    clear HCd hW5 H3
    refine wpIn_throughB_box (gf := 59) (lb := #[.pointer (some ⟨W3.heap.size + 1, 0, none⟩), .pointer (some ⟨W3.heap.size, 0, none⟩)]) rfl (enters_of Tryd.func59 (by kernel_rfl) rfl) (w0 := W5) (Below.refl _ _)
      (has1_any 8 (by omega) w.heap.size b H.out.sm (v - 1) (W3.heap.size + 1) W3.heap.size W5 HS2.out.1.hp) (fun h k => kpOf_t h k) (fun W l o o' hl ho hc _ hp => hp.put o' (by have := HS2.out.2; omega) ho hc) (fun W o hp => hp.below (fb_alloc (Below.refl _ _) o)) (fun _ => rfl)
      (fun j W => HL w0 w col c b i (v - 1) W3.heap.size (W3.heap.size + 1) (some D) W (k + 21 + 4 * j) q ⟨m.H.set i v, ((absOf b.abs (v - 1)).take j).foldl (addK i) Z1⟩)
      (fun _ A B row hs' hg hr => hs'.grown (N := W5.heap.size) (by rw [HS2.out.2]; omega) (fun r e => by cases e; rw [HS2.out.2]; omega) hg hr) (fun _ W1 W2 h1 hb => h1.below hb) (fun _ W h1 => by rw [HS2.out.2]; have := h1.hp.bc.lt; omega) (by simpa using HS2.out.1) 9 86 (fun x => [.int .i64 x.1, .int .i64 x.2]) ?FR2 ?hfr2 ?assign2 ?body2 ?done2
    case hfr2 =>
      intro x v
      simp
      rfl
    case assign2 =>
      intro l x W K hK
      have HK := Lib.hid hK
      clear hK
      gi_wp2
      exact HK.out
    case body2 =>
      intro l j x Bc W hx hst hBc hA
      obtain ⟨y0, y1⟩ := x
      have hA0 : W.cell? ⟨Bc, 0, none⟩ = some (.int .i64 y0) := hA.cell 0
      have hA1 : W.cell? ⟨Bc, 1, none⟩ = some (.int .i64 y1) := hA.cell 1
      have d0 := hst.b0.cell
      have d3 : W.cell? ⟨b.X, 3, none⟩ = some (.map (some b.M)) := hst.hp.f.x.cell 3
      have hwf : wf2 y0 y1 := absOf_wf hst.ih.sm hx
      have hfold := take_fold (addK i) (absOf b.abs (v - 1)) j (y0, y1) hx Z1
      have hj5 : j < 5 := by have := absOf_len hst.ih.sm (v - 1); have := (List.getElem?_eq_some_iff.1 hx).1; omega
      have HW := Lib.hid hst
      dsimp only
      by_cases hx0 : kx y0 y1 = 0
      · have hl : ∀ n, (Instr.lookup 82 (.map (some b.M)) (.agg #[.int .i64 y0, .int .i64 y1]) true).run Tryd.prog (W.drewN n) = .ok (.tuple #[.int .i64 0, .bool false]) (W.drewN n) := fun n => (hst.hp.f.below (fb_drewN (Below.refl _ W) n)).lookNo hwf hx0
        have HF := Lib.hid (show ((absOf b.abs (v - 1)).take (j + 1)).foldl (addK i) Z1 = ((absOf b.abs (v - 1)).take j).foldl (addK i) Z1 from by rw [hfold]; unfold addK; rw [if_pos hx0])
        clear hst hx hfold hA hwf hx0
        gi_wp2
        refine wpIn_round_drewN (by kernel_rfl) (by kernel_rfl) (by kernel_rfl) ?_
        repeat (go_big_quiet_step (fail))
        refine wpQuiet_nil ?_
        intro _ hw'
        obtain ⟨nq, hw''⟩ := hw'
        subst hw''
        rw [inQ_normal]
        gi_wp2
        exact ⟨(keepsO_drewN W nq).from _, fun hp => hp.below (fb_drewN (Below.refl _ W) nq), by dsimp only; rw [HF.out]; exact (HW.out.below (fb_drewN (Below.refl _ W) nq)).mono (by omega)⟩
      · obtain ⟨a, ha⟩ : ∃ a, b.base + 256 + 4 * kx y0 y1 = a := ⟨_, rfl⟩
        have hl : ∀ n, (Instr.lookup 82 (.map (some b.M)) (.agg #[.int .i64 y0, .int .i64 y1]) true).run Tryd.prog (W.drewN n) = .ok (.tuple #[.int .i64 (a : Int), .bool true]) (W.drewN n) := fun n => by
          have := (hst.hp.f.below (fb_drewN (Below.refl _ W) n)).lookYes hwf hx0
          rw [ha] at this; exact this
        have HF := Lib.hid (show ((absOf b.abs (v - 1)).take (j + 1)).foldl (addK i) Z1 = upd (((absOf b.abs (v - 1)).take j).foldl (addK i) Z1) (kx y0 y1) (addI ((((absOf b.abs (v - 1)).take j).foldl (addK i) Z1) (kx y0 y1)) (i : Int)) from by rw [hfold]; unfold addK; rw [if_neg hx0, addI_in _ i hi])
        have HA := Lib.hid ha
        clear hst hx hfold hA hwf hx0 ha
        gi_wp2
        refine wpIn_round_drewN (by kernel_rfl) (by kernel_rfl) (by kernel_rfl) ?_
        repeat (go_big_quiet_step (fail))
        refine wpQuiet_nil ?_
        intro _ hw'
        obtain ⟨nq, hw''⟩ := hw'
        subst hw''
        rw [inQ_normal]
        obtain ⟨col1, h1, h2⟩ := (HW.out.below (fb_drewN (Below.refl _ W) nq)).next
        have HC := Lib.hid (change_gain h1 (by omega) (kx y0 y1) a (kx_lt _ _) HA.out (w.heap.size + 1) (i : Int) ((HW.out.below (fb_drewN (Below.refl _ W) nq)).b1.cell))
        have HN := Lib.hid h2
        clear h1 h2 hl
        gi_wp2_with (refine ⟨trivial, ?_⟩; gi_at_call 39; refine (CallsIn.inRound l (callsIn_wide.2 HC.out)).mono ?_; rintro e W3 ⟨rfl, hN⟩)
        have H5 := Lib.hid (HN.out _ _ _ hN)
        clear hN
        gi_wp2
        exact ⟨⟨H5.out.2.size, fun k o hk ho hc => H5.out.2.same k o (by have := HS2.out.2; omega) ho hc⟩, fun _ => H5.out.1.hp, by dsimp only; rw [HF.out]; exact H5.out.1.mono (by omega)⟩
    case done2 =>
      intro D2 W6 hD6 hst hK
      have hlen := absOf_len H.out.sm (v - 1)
      rw [List.take_length] at hst
      have HW6 := Lib.hid (hst.mono (n := k + 50) (by omega))
      have hD22 : w.heap.size ≤ D2 := by have := HS2.out.2; omega
      have hne : D ≠ D2 := by have := HS2.out.2; omega
      clear hst hlen
      gi_wp2
      have hKD : (W6.putObj D2 (.deferred none)).heap[D]? = some (.deferred (some [])) := (World.putObj_heap_other hne).trans (HW6.out.dd D rfl).2
      have H7 := HW6.out.ih.grown (grownBy_putObj' W6 D2 (.deferred none)) (fun r e => by cases e; exact ⟨hD22, _, hK, rfl⟩)
      have H8 := H7.grown (grownBy_putObj' _ D (.deferred none)) (fun r e => by cases e; exact ⟨hD2, _, hKD, rfl⟩)
      have HZ : holdM (absOf b.abs cd) (absOf b.abs (v - 1)) i v m = ⟨m.H.set i v, (absOf b.abs (v - 1)).foldl (addK i) Z1⟩ := by unfold holdM; rw [HZ1.out]
      refine ⟨by simp, .inl ⟨_, _, rfl, run_takeDeferred hK, ?_⟩⟩
      refine ⟨by simp, .inl ⟨_, _, rfl, run_takeDeferred hKD, ?_⟩⟩
      refine ⟨.tuple #[], by simp [results, Tryd.f37, go_sem], rfl, ?_⟩
      rw [HZ]
      exact H8.fin
end
end
end Go.Proofs.YtcgadmeagbcbnaaDoor
