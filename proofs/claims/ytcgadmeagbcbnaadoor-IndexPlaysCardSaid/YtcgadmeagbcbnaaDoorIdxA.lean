/- How an index lies in memory; its state by colours. No condition. -/
import Derived.Test.YtcgadmeagbcbnaaDoorIdxP
import Derived.Test.YtcgadmeagbcbnaaDoorIdxMap
import Derived.Test.YtcgadmeagbcbnaaDoorRes
import Derived.Test.YtcgadmeagbcbnaaDoorReg
namespace Go.Proofs.YtcgadmeagbcbnaaDoor
open Go.RowKit
attribute [local irreducible] Calls

/-- The cells of an ability, and of a card. -/
def abC (q : Int × Int) : List Value := [.int .i64 q.1, .int .i64 q.2, .int .i64 0, .int .i64 0, .int .i64 0, .int .i64 0, .int .i64 0, .bool false, .slice none 0 0, .slice none 0 0, .int .i64 0, .int .i64 0, .int .i64 0]
def cardC (v : Value) : List Value := [.string "".toUTF8, .int .i64 0, .int .i64 0, .int .i64 0, .int .i64 0, .int .i64 0, .int .i64 0, .int .i64 0, .int .i64 0, .int .i64 0, v]
def AbRow (w : World) (base : Nat) (v : Value) (l : List (Int × Int)) : Prop := w.ownsRow base 81 13 v l.length (l.flatMap abC)
def CdRow (w : World) (base : Nat) (v : Value) (vs : List Value) : Prop := w.ownsRow base 75 11 v vs.length (vs.flatMap cardC)
/-- The slice v holds cards that have these abilities; it lies in the blocks S. -/
def CardsAt (w : World) (S : Nat → Prop) (v : Value) (vs : List Value) (abs : List (List (Int × Int))) : Prop :=
  vs.length = abs.length ∧ CdRow w 0 v vs ∧ (∀ k, v.ownBlock = some k → S k) ∧ ∀ i, i < abs.length → AbRow w 0 (vs.getD i undef) (abs.getD i []) ∧ ∀ k, (vs.getD i undef).ownBlock = some k → S k
theorem flatMap_at {α : Type} (f : α → List Value) (n : Nat) (d : α) (hf : ∀ x, (f x).length = n) : ∀ (l : List α) (i j : Nat), i < l.length → j < n → (l.flatMap f)[i * n + j]? = (f (l.getD i d))[j]? := by
  intro l
  induction l with
  | nil => intro i j h; cases h
  | cons x l ih =>
    intro i j hi hj
    cases i with
    | zero => rw [Nat.zero_mul, Nat.zero_add, List.flatMap_cons, List.getElem?_append_left (by rw [hf]; exact hj)]; rfl
    | succ i =>
      rw [List.flatMap_cons, List.getElem?_append_right (by rw [hf]; have : n ≤ (i + 1) * n := Nat.le_mul_of_pos_left n (by omega); omega), hf,
        show (i + 1) * n + j - n = i * n + j from by rw [Nat.succ_mul]; omega, ih i j (by simpa using hi) hj]
      rfl
theorem own_cell {w : World} {base : Nat} {e : TypeId} {size n : Nat} {v : Value} {xs : List Value} (h : w.ownsRow base e size v n xs) {j : Nat} (hj : j < n * size) : ∃ g cap, v = .slice (some ⟨g, 0, none⟩) n cap ∧ n ≤ cap ∧ w.cell? ⟨g, j, none⟩ = xs[j]? := by
  rcases h.2 with ⟨_, h2⟩ | ⟨g, cap, cur, hv, _, hg, hc, _, hs, ht⟩
  · subst h2; omega
  · refine ⟨g, cap, hv, hc, ?_⟩
    rw [← ht, List.getElem?_take, if_pos hj]
    simp [World.cell?, hg]
theorem AbRow.cell {w : World} {base : Nat} {v : Value} {l : List (Int × Int)} (h : AbRow w base v l) {i : Nat} (hi : i < l.length) : ∃ g cap, v = .slice (some ⟨g, 0, none⟩) l.length cap ∧ l.length ≤ cap ∧ ∀ j, j < 13 → w.cell? ⟨g, i * 13 + j, none⟩ = (abC (l.getD i (0, 0)))[j]? := by
  obtain ⟨g, cap, hv, hc, _⟩ := own_cell h (j := i * 13) (by omega)
  refine ⟨g, cap, hv, hc, fun j hj => ?_⟩
  obtain ⟨g', cap', hv', _, h2⟩ := own_cell h (j := i * 13 + j) (by omega)
  rw [hv] at hv'
  injection hv' with e1
  injection e1 with e1
  injection e1 with e1
  subst e1
  rw [h2]
  exact flatMap_at abC 13 (0, 0) (fun _ => rfl) l i j hi hj
theorem CdRow.cell {w : World} {base : Nat} {v : Value} {vs : List Value} (h : CdRow w base v vs) {i : Nat} (hi : i < vs.length) : ∃ g cap, v = .slice (some ⟨g, 0, none⟩) vs.length cap ∧ vs.length ≤ cap ∧ ∀ j, j < 11 → w.cell? ⟨g, i * 11 + j, none⟩ = (cardC (vs.getD i undef))[j]? := by
  obtain ⟨g, cap, hv, hc, _⟩ := own_cell h (j := i * 11) (by omega)
  refine ⟨g, cap, hv, hc, fun j hj => ?_⟩
  obtain ⟨g', cap', hv', _, h2⟩ := own_cell h (j := i * 11 + j) (by omega)
  rw [hv] at hv'
  injection hv' with e1
  injection e1 with e1
  injection e1 with e1
  subst e1
  rw [h2]
  exact flatMap_at cardC 11 undef (fun _ => rfl) vs i j hi hj
theorem own_form' {w : World} {base : Nat} {e : TypeId} {size n : Nat} {v : Value} {xs : List Value} (h : w.ownsRow base e size v n xs) : ∃ a cap, v = .slice a n cap ∧ n ≤ cap := by
  rcases h.2 with ⟨h1, h2⟩ | ⟨g, cap, cur, hv, _, _, hc, _⟩
  · exact ⟨none, 0, by rw [h1, h2], by omega⟩
  · exact ⟨_, cap, hv, hc⟩
theorem own_mono0 {w : World} {base : Nat} {e : TypeId} {size n : Nat} {v : Value} {xs : List Value} (h : w.ownsRow base e size v n xs) : w.ownsRow 0 e size v n xs := by
  refine ⟨h.1, ?_⟩
  rcases h.2 with h1 | ⟨g, cap, cur, hv, _, r⟩
  · exact .inl h1
  · exact .inr ⟨g, cap, cur, hv, Nat.zero_le _, r⟩
theorem CardsAt.block {w w' : World} {S : Nat → Prop} {v : Value} {vs : List Value} {abs : List (List (Int × Int))} (h : CardsAt w S v vs abs) (hb : ∀ k, S k → w'.heap[k]? = w.heap[k]?) : CardsAt w' S v vs abs := by
  obtain ⟨h1, h2, h3, h4⟩ := h
  exact ⟨h1, ownsRow_block h2 (fun k hk => hb k (h3 k hk)), h3, fun i hi => ⟨ownsRow_block (h4 i hi).1 (fun k hk => hb k ((h4 i hi).2 k hk)), (h4 i hi).2⟩⟩
theorem CardsAt.imp {w : World} {S S' : Nat → Prop} {v : Value} {vs : List Value} {abs : List (List (Int × Int))} (h : CardsAt w S v vs abs) (hi : ∀ k, S k → S' k) : CardsAt w S' v vs abs := by
  obtain ⟨h1, h2, h3, h4⟩ := h
  exact ⟨h1, h2, fun k hk => hi k (h3 k hk), fun i hh => ⟨(h4 i hh).1, fun k hk => hi k ((h4 i hh).2 k hk)⟩⟩
theorem CardsAt.form {w : World} {S : Nat → Prop} {v : Value} {vs : List Value} {abs : List (List (Int × Int))} (h : CardsAt w S v vs abs) : ∃ a cap, v = .slice a abs.length cap ∧ abs.length ≤ cap := by
  obtain ⟨h1, h2, _⟩ := h
  rw [← h1]; exact own_form' h2

/-- An index: itself, its map, its trail, where its cells begin, its cards. -/
structure IB where
  X : Nat
  M : Nat
  T : Nat
  base : Nat
  cv : Value
  vs : List Value
  S : Nat → Prop
  abs : List (List (Int × Int))
  F : List Int → Prop
def mapF (base : Nat) (k e : Int) : Option Int := if kx k e = 0 then none else some ((base + 256 + 4 * kx k e : Nat) : Int)
structure IxF (w : World) (b : IB) : Prop where
  x : Arr w b.X 84 [.pointer (some ⟨b.T, 0, none⟩), b.cv, .int .i64 (b.base : Int), .map (some b.M), .int .i64 ((b.base + 256 : Nat) : Int)]
  m : MapAt w b.M 35 (mapF b.base)
  c : CardsAt w b.S b.cv b.vs b.abs
  lt : ∀ j, b.S j → j < w.heap.size
structure ISm (b : IB) : Prop where
  base : b.base ≤ 1000000
  len : b.abs.length ≤ 1000000
  each : ∀ i, i < b.abs.length → (b.abs.getD i []).length ≤ 5
  wf : ∀ i, i < b.abs.length → ∀ q ∈ b.abs.getD i [], wf2 q.1 q.2
  stab : ∀ cs i v, (b.base : Int) ≤ i → i < (b.base : Int) + 400 → b.F cs → b.F (setC cs i v)
def IB.has (b : IB) (j : Nat) : Prop := j = b.X ∨ j = b.M ∨ b.S j
section
variable {w w' : World} {b : IB}
theorem IxF.block (h : IxF w b) (hb : ∀ j, b.has j → w'.heap[j]? = w.heap[j]?) (hs : w.heap.size ≤ w'.heap.size) : IxF w' b :=
  ⟨(hb _ (.inl rfl)).trans h.x, h.m.block (hb _ (.inr (.inl rfl))), h.c.block fun k hk => hb k (.inr (.inr hk)), fun j hj => Nat.lt_of_lt_of_le (h.lt j hj) hs⟩
theorem IxF.isLt (h : IxF w b) {j : Nat} (hj : b.has j) : j < w.heap.size := by
  rcases hj with rfl | rfl | hj
  · exact h.x.lt
  · exact h.m.lt
  · exact h.lt j hj
theorem IxF.below (h : IxF w b) (hb : Below w.heap.size w w') : IxF w' b := h.block (fun j hj => hb.block j (h.isLt hj)) hb.size
theorem IxF.moved {S : Nat → Prop} (h : IxF w b) (hm : Moved w w' S) (hn : ∀ j, b.has j → ¬ S j) : IxF w' b := h.block (fun j hj => hm.block j (h.isLt hj) (hn j hj)) hm.size
end
/-- The index, with its trail of the colour c; q: the cells and changes at a mark ahead. -/
structure IC (w0 w : World) (col : Nat → Nat) (c : Nat) (b : IB) (O : Nat → Prop) (p : List Int × List (Int × Int)) (m : IM) : Prop where
  oc : ∀ j, O j → col j = c
  bc : ∀ j, b.has j → col j = c
  t : TrS w0 w b.T O p.1 p.2
  o : ∀ j, b.has j → ¬ O j
  f : IxF w b
  h : IHolds b.base p.1 m ∧ b.F p.1
  g : ISm b
def IS (w0 w : World) (col : Nat → Nat) (c : Nat) (b : IB) (k : Nat) (q : List Int × List (Int × Int)) (m : IM) : Prop :=
  ∃ O p, IC w0 w col c b O p m ∧ Hist q p ∧ p.2.length ≤ k
/-- Behind a call that wrote it. -/
def ISN (w0 w w' : World) (col : Nat → Nat) (c : Nat) (b : IB) (k : Nat) (q : List Int × List (Int × Int)) (m : IM) : Prop :=
  IS w0 w' (recol w.heap.size col c) c b k q m ∧ Moved w w' (fun j => col j = c)
section
variable {w0 w w1 w' : World} {col : Nat → Nat} {c k n : Nat} {b : IB} {q : List Int × List (Int × Int)} {m m' : IM}
theorem IS.bel (h : IS w0 w col c b k q m) : Below w0.heap.size w0 w := by obtain ⟨O, p, h, _⟩ := h; exact h.t.bel
theorem IS.sm (h : IS w0 w col c b k q m) : ISm b := by obtain ⟨O, p, h, _⟩ := h; exact h.g
theorem IS.fo (h : IS w0 w col c b k q m) : IxF w b := by obtain ⟨O, p, h, _⟩ := h; exact h.f
theorem IS.wf (h : IS w0 w col c b k q m) {s : Nat} (hs : s < 36) : wfB (m.Z s) := by obtain ⟨O, p, h, _⟩ := h; exact h.h.1.wf hs
theorem IS.hl (h : IS w0 w col c b k q m) : m.H.length = 256 := by obtain ⟨O, p, h, _⟩ := h; exact h.h.1.2.1
theorem IS.mono (h : IS w0 w col c b k q m) (hn : k ≤ n) : IS w0 w col c b n q m := by obtain ⟨O, p, h1, h2, h3⟩ := h; exact ⟨O, p, h1, h2, by omega⟩
theorem IS.ofHist {q' : List Int × List (Int × Int)} (h : IS w0 w col c b k q m) (hh : Hist q' q) : IS w0 w col c b k q' m := by obtain ⟨O, p, h1, h2, h3⟩ := h; exact ⟨O, p, h1, hh.trans h2, h3⟩
theorem IS.below (h : IS w0 w col c b k q m) (hb : Below w.heap.size w w') (a : Nat) : IS w0 w' (recol w.heap.size col a) c b k q m := by
  obtain ⟨O, p, h1, h2⟩ := h
  exact ⟨O, p, ⟨fun j hj => (recol_lt (h1.t.base hj).2).trans (h1.oc j hj), fun j hj => (recol_lt (h1.f.isLt hj)).trans (h1.bc j hj), h1.t.below hb, h1.o, h1.f.below hb, h1.h, h1.g⟩, h2⟩
/-- What has another colour was written. -/
theorem IS.moved {S : Nat → Prop} {a : Nat} (h : IS w0 w col c b k q m) (hm : Moved w w' S) (hS : ∀ j, S j → j < w.heap.size → col j = a) (hb : ∀ j, S j → w0.heap.size ≤ j) (hne : c ≠ a) : IS w0 w' (recol w.heap.size col a) c b k q m := by
  obtain ⟨O, p, h1, h2⟩ := h
  have hbel : Below w0.heap.size w0 w' := h1.t.bel.trans (hm.below hb h1.t.bel.size)
  have hx : ∀ j, col j = c → j < w.heap.size → ¬ S j := fun j hj hl hs => hne (hj.symm.trans (hS j hs hl))
  exact ⟨O, p, ⟨fun j hj => (recol_lt (h1.t.base hj).2).trans (h1.oc j hj), fun j hj => (recol_lt (h1.f.isLt hj)).trans (h1.bc j hj),
    h1.t.moved hm hbel (fun j hj => hx j (h1.oc j hj) (h1.t.base hj).2), h1.o, h1.f.moved hm (fun j hj => hx j (h1.bc j hj) (h1.f.isLt hj)), h1.h, h1.g⟩, h2⟩
theorem recol_twice {x y : Nat} (h : x ≤ y) (col : Nat → Nat) (c : Nat) : recol y (recol x col c) c = recol x col c := by
  funext j
  unfold recol
  by_cases h1 : j < y
  · rw [if_pos h1]
  · rw [if_neg h1, if_neg (by omega)]
theorem ISN.same (h : IS w0 w col c b k q m) (hb : Below w.heap.size w w') : ISN w0 w w' col c b k q m := ⟨h.below hb c, Moved.of_below hb _⟩
theorem ISN.trans (h : ISN w0 w w1 col c b k q m) (h2 : ISN w0 w1 w' (recol w.heap.size col c) c b n q m') : ISN w0 w w' col c b n q m' := by
  refine ⟨by rw [← recol_twice h.2.size col c]; exact h2.1, h.2.trans h2.2 fun j hj => ?_⟩
  by_cases hl : j < w.heap.size
  · rw [recol_lt hl] at hj; exact .inl hj
  · exact .inr (by omega)
theorem ISN.pre (hb : Below w.heap.size w w1) (h : ISN w0 w1 w' (recol w.heap.size col c) c b k q m) : ISN w0 w w' col c b k q m := by
  refine ⟨by rw [← recol_twice hb.size col c]; exact h.1, (Moved.of_below hb _).trans h.2 fun j hj => ?_⟩
  by_cases hl : j < w.heap.size
  · rw [recol_lt hl] at hj; exact .inl hj
  · exact .inr (by omega)
theorem ISN.post (h : ISN w0 w w1 col c b k q m) (hb : Below w1.heap.size w1 w') : ISN w0 w w' col c b k q m := h.trans (ISN.same h.1 hb)
theorem ISN.mono (h : ISN w0 w w' col c b k q m) (hn : k ≤ n) : ISN w0 w w' col c b n q m := ⟨h.1.mono hn, h.2⟩
/-! The cells read and written. -/
theorem is_get (h : IS w0 w col c b k q m) (i v : Int) (hv : ∀ cs, IHolds b.base cs m → getZ cs i = v) : Calls Tryd.prog 43 #[.pointer (some ⟨b.T, 0, none⟩), .int .i64 i] w fun e w' => e = .returned (.int .i64 v) ∧ w = w' := by
  obtain ⟨O, p, h1, _⟩ := h
  rw [← hv p.1 h1.h.1]
  exact tr_get h1.t i
theorem is_set (h : IS w0 w col c b k q m) (hk : k ≤ 1000000000) (i v : Int) (hi : (b.base : Int) ≤ i ∧ i < (b.base : Int) + 400) (hm : ∀ cs, IHolds b.base cs m → IHolds b.base (setC cs i v) m') : Calls Tryd.prog 52 #[.pointer (some ⟨b.T, 0, none⟩), .int .i64 i, .int .i64 v] w fun e w' => e = .returned (.tuple #[]) ∧ ISN w0 w w' col c b (k + 1) q m' := by
  obtain ⟨O, p, h1, h2, h3⟩ := h
  refine (tr_set h1.t i v (by omega)).mono fun e w' ⟨he, hn⟩ => ⟨he, ?_⟩
  obtain ⟨O', a, hO⟩ := hn.st
  refine ⟨⟨O', setP p i v, ⟨fun j hj => ?_, fun j hj => (recol_lt (h1.f.isLt hj)).trans (h1.bc j hj), a, fun j hj hO' => ?_, h1.f.moved hn.mv h1.o, ⟨hm p.1 h1.h.1, h1.g.stab _ _ _ hi.1 hi.2 h1.h.2⟩, h1.g⟩, h2.trans (Hist.set p i v), ?_⟩, ⟨hn.mv.os, hn.mv.tape, hn.mv.output, hn.mv.size, fun j hj hne => hn.mv.block j hj fun ho => hne (h1.oc j ho)⟩⟩
  · rcases hO j hj with h5 | h5
    · exact (recol_lt (h1.t.base h5).2).trans (h1.oc j h5)
    · exact recol_ge h5
  · rcases hO j hO' with h5 | h5
    · exact h1.o j hj h5
    · have := h1.f.isLt hj; omega
  · have := (setH_len p.1 p.2 i v).2
    show (setH p.1 p.2 i v).length ≤ k + 1
    omega
/-- A mark: from here on one may go back to it. -/
def IMark (b : IB) (k : Nat) (q : List Int × List (Int × Int)) (m : IM) (x : Int) : Prop := x = (q.2.length : Nat) ∧ IHolds b.base q.1 m ∧ q.2.length ≤ k ∧ b.F q.1
theorem IMark.mono {x : Int} (h : IMark b k q m x) (hn : k ≤ n) : IMark b n q m x := ⟨h.1, h.2.1, Nat.le_trans h.2.2.1 hn, h.2.2.2⟩
theorem is_mark (h : IS w0 w col c b k q m) :
    Calls Tryd.prog 16 #[.pointer (some ⟨b.T, 0, none⟩)] w fun e w' => ∃ q' x, e = .returned (.int .i64 x) ∧ IMark b k q' m x ∧ IS w0 w col c b k q' m ∧ Hist q q' ∧ w = w' := by
  obtain ⟨O, p, h1, h2, h3⟩ := h
  exact (tr_mark h1.t).mono fun e w' ⟨he, hw⟩ => ⟨p, _, he, ⟨rfl, h1.h.1, h3, h1.h.2⟩, ⟨O, p, h1, Hist.refl p, h3⟩, h2, hw⟩
theorem is_back (h : IS w0 w col c b k q m) (hk : k ≤ 1000000000) {x : Int} (hx : IMark b n q m' x) :
    Calls Tryd.prog 17 #[.pointer (some ⟨b.T, 0, none⟩), .int .i64 x] w fun e w' => e = .returned (.int .i64 0) ∧ ISN w0 w w' col c b n q m' := by
  obtain ⟨O, p, h1, h2, h3⟩ := h
  obtain ⟨rfl, hr, hl, hf⟩ := hx
  refine (tr_back h1.t q.2.length h2.1 (by omega)).mono fun e w' ⟨he, hn⟩ => ⟨he, ?_⟩
  rw [h2.back.1, h2.back.2] at hn
  obtain ⟨O', a, hO⟩ := hn.st
  refine ⟨⟨O', q, ⟨fun j hj => ?_, fun j hj => (recol_lt (h1.f.isLt hj)).trans (h1.bc j hj), a, fun j hj hO' => ?_, h1.f.moved hn.mv h1.o, ⟨hr, hf⟩, h1.g⟩, Hist.refl q, hl⟩, ⟨hn.mv.os, hn.mv.tape, hn.mv.output, hn.mv.size, fun j hj hne => hn.mv.block j hj fun ho => hne (h1.oc j ho)⟩⟩
  · rcases hO j hj with h5 | h5
    · exact (recol_lt (h1.t.base h5).2).trans (h1.oc j h5)
    · exact recol_ge h5
  · rcases hO j hO' with h5 | h5
    · exact h1.o j hj h5
    · have := h1.f.isLt hj; omega
end
end Go.Proofs.YtcgadmeagbcbnaaDoor
