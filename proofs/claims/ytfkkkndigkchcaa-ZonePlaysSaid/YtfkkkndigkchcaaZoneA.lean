/- How zones lie in memory; their state by colours. No condition. -/
import Derived.Test.YtfkkkndigkchcaaZoneP
import Derived.Test.YtfkkkndigkchcaaRes
import Derived.Test.YtfkkkndigkchcaaReg
namespace Go.Proofs.Ytfkkkndigkchcaa
open Go.RowKit
attribute [local irreducible] Calls

/-- The blocks of zones: themselves, the cells with the first cell, the lists, the slots, the homes. -/
structure ZB where
  Z : Nat
  F : Nat
  L : Nat
  S : Nat
  H : Nat
  T : Nat
structure ZoF (w : World) (b : ZB) (g : ZG) : Prop where
  z : Arr w b.Z 105 [.pointer (some ⟨b.T, 0, none⟩), .int .i64 (g.zones : Int), .int .i64 (g.slots : Int), .func (.func 75) #[] #[.pointer (some ⟨b.F, 0, none⟩)], .func (.func 76) #[] #[.pointer (some ⟨b.L, 0, none⟩), .pointer (some ⟨b.S, 0, none⟩)], .func (.func 77) #[] #[.pointer (some ⟨b.H, 0, none⟩)]]
  f : Arr w b.F 3 [.int .i64 (g.first : Int)]
  l : Arr w b.L 3 [.int .i64 (g.lists : Int)]
  s : Arr w b.S 3 [.int .i64 (g.slots : Int)]
  h : Arr w b.H 3 [.int .i64 (g.homes : Int)]
structure ZSm (g : ZG) : Prop where
  z1 : 1 ≤ g.zones
  z2 : g.zones ≤ 64
  s1 : 1 ≤ g.slots
  s2 : g.slots ≤ 256
  f : g.first ≤ 1000000
def ZB.has (b : ZB) (j : Nat) : Prop := j = b.Z ∨ j = b.F ∨ j = b.L ∨ j = b.S ∨ j = b.H
section
variable {w w' : World} {b : ZB} {g : ZG}
theorem ZoF.below (h : ZoF w b g) (hb : Below w.heap.size w w') : ZoF w' b g := ⟨h.z.below hb h.z.lt, h.f.below hb h.f.lt, h.l.below hb h.l.lt, h.s.below hb h.s.lt, h.h.below hb h.h.lt⟩
theorem ZoF.lt (h : ZoF w b g) {j : Nat} (hj : b.has j) : j < w.heap.size := by
  rcases hj with rfl | rfl | rfl | rfl | rfl
  · exact h.z.lt
  · exact h.f.lt
  · exact h.l.lt
  · exact h.s.lt
  · exact h.h.lt
theorem ZoF.moved {S : Nat → Prop} (h : ZoF w b g) (hm : Moved w w' S) (hn : ∀ j, b.has j → ¬ S j) : ZoF w' b g :=
  ⟨(hm.block _ h.z.lt (hn _ (.inl rfl))).trans h.z, (hm.block _ h.f.lt (hn _ (.inr (.inl rfl)))).trans h.f, (hm.block _ h.l.lt (hn _ (.inr (.inr (.inl rfl))))).trans h.l, (hm.block _ h.s.lt (hn _ (.inr (.inr (.inr (.inl rfl)))))).trans h.s, (hm.block _ h.h.lt (hn _ (.inr (.inr (.inr (.inr rfl)))))).trans h.h⟩
end
/-- The zones, with their trail of the colour c; q: the cells and changes at a mark ahead. -/
structure ZC (w0 w : World) (col : Nat → Nat) (c : Nat) (b : ZB) (g : ZG) (O : Nat → Prop) (p : List Int × List (Int × Int)) (m : ZM) : Prop where
  oc : ∀ j, O j → col j = c
  bc : ∀ j, b.has j → col j = c
  t : TrS w0 w b.T O p.1 p.2
  o : ∀ j, b.has j → ¬ O j
  f : ZoF w b g
  h : Holds g p.1 m
  g : ZSm g
def ZS (w0 w : World) (col : Nat → Nat) (c : Nat) (b : ZB) (g : ZG) (k : Nat) (q : List Int × List (Int × Int)) (m : ZM) : Prop :=
  ∃ O p, ZC w0 w col c b g O p m ∧ Hist q p ∧ p.2.length ≤ k
/-- Behind a call that wrote them. -/
def ZSN (w0 w w' : World) (col : Nat → Nat) (c : Nat) (b : ZB) (g : ZG) (k : Nat) (q : List Int × List (Int × Int)) (m : ZM) : Prop :=
  ZS w0 w' (recol w.heap.size col c) c b g k q m ∧ Moved w w' (fun j => col j = c)
section
variable {w0 w w1 w' : World} {col : Nat → Nat} {c k n : Nat} {b : ZB} {g : ZG} {q : List Int × List (Int × Int)} {m m' : ZM}
theorem ZS.bel (h : ZS w0 w col c b g k q m) : Below w0.heap.size w0 w := by obtain ⟨O, p, h, _⟩ := h; exact h.t.bel
theorem ZS.sm (h : ZS w0 w col c b g k q m) : ZSm g := by obtain ⟨O, p, h, _⟩ := h; exact h.g
theorem ZS.fo (h : ZS w0 w col c b g k q m) : ZoF w b g := by obtain ⟨O, p, h, _⟩ := h; exact h.f
theorem ZS.mono (h : ZS w0 w col c b g k q m) (hn : k ≤ n) : ZS w0 w col c b g n q m := by obtain ⟨O, p, h1, h2, h3⟩ := h; exact ⟨O, p, h1, h2, by omega⟩
theorem ZS.ofHist {q' : List Int × List (Int × Int)} (h : ZS w0 w col c b g k q m) (hh : Hist q' q) : ZS w0 w col c b g k q' m := by obtain ⟨O, p, h1, h2, h3⟩ := h; exact ⟨O, p, h1, hh.trans h2, h3⟩
theorem ZS.below (h : ZS w0 w col c b g k q m) (hb : Below w.heap.size w w') (a : Nat) : ZS w0 w' (recol w.heap.size col a) c b g k q m := by
  obtain ⟨O, p, h1, h2⟩ := h
  exact ⟨O, p, ⟨fun j hj => (recol_lt (h1.t.base hj).2).trans (h1.oc j hj), fun j hj => (recol_lt (h1.f.lt hj)).trans (h1.bc j hj), h1.t.below hb, h1.o, h1.f.below hb, h1.h, h1.g⟩, h2⟩
/-- What has another colour was written. -/
theorem ZS.moved {S : Nat → Prop} {a : Nat} (h : ZS w0 w col c b g k q m) (hm : Moved w w' S) (hS : ∀ j, S j → j < w.heap.size → col j = a) (hb : ∀ j, S j → w0.heap.size ≤ j) (hne : c ≠ a) : ZS w0 w' (recol w.heap.size col a) c b g k q m := by
  obtain ⟨O, p, h1, h2⟩ := h
  have hbel : Below w0.heap.size w0 w' := h1.t.bel.trans (hm.below hb h1.t.bel.size)
  have hx : ∀ j, col j = c → j < w.heap.size → ¬ S j := fun j hj hl hs => hne (hj.symm.trans (hS j hs hl))
  exact ⟨O, p, ⟨fun j hj => (recol_lt (h1.t.base hj).2).trans (h1.oc j hj), fun j hj => (recol_lt (h1.f.lt hj)).trans (h1.bc j hj),
    h1.t.moved hm hbel (fun j hj => hx j (h1.oc j hj) (h1.t.base hj).2), h1.o, h1.f.moved hm (fun j hj => hx j (h1.bc j hj) (h1.f.lt hj)), h1.h, h1.g⟩, h2⟩
theorem recol_twice {x y : Nat} (h : x ≤ y) (col : Nat → Nat) (c : Nat) : recol y (recol x col c) c = recol x col c := by
  funext j
  unfold recol
  by_cases h1 : j < y
  · rw [if_pos h1]
  · rw [if_neg h1, if_neg (by omega)]
theorem ZSN.same (h : ZS w0 w col c b g k q m) (hb : Below w.heap.size w w') : ZSN w0 w w' col c b g k q m := ⟨h.below hb c, Moved.of_below hb _⟩
theorem ZSN.trans (h : ZSN w0 w w1 col c b g k q m) (h2 : ZSN w0 w1 w' (recol w.heap.size col c) c b g n q m') : ZSN w0 w w' col c b g n q m' := by
  refine ⟨by rw [← recol_twice h.2.size col c]; exact h2.1, h.2.trans h2.2 fun j hj => ?_⟩
  by_cases hl : j < w.heap.size
  · rw [recol_lt hl] at hj; exact .inl hj
  · exact .inr (by omega)
theorem ZSN.pre (hb : Below w.heap.size w w1) (h : ZSN w0 w1 w' (recol w.heap.size col c) c b g k q m) : ZSN w0 w w' col c b g k q m := by
  refine ⟨by rw [← recol_twice hb.size col c]; exact h.1, (Moved.of_below hb _).trans h.2 fun j hj => ?_⟩
  by_cases hl : j < w.heap.size
  · rw [recol_lt hl] at hj; exact .inl hj
  · exact .inr (by omega)
theorem ZSN.post (h : ZSN w0 w w1 col c b g k q m) (hb : Below w1.heap.size w1 w') : ZSN w0 w w' col c b g k q m := h.trans (ZSN.same h.1 hb)
theorem ZSN.mono (h : ZSN w0 w w' col c b g k q m) (hn : k ≤ n) : ZSN w0 w w' col c b g n q m := ⟨h.1.mono hn, h.2⟩
/-! The cells read and written. -/
theorem zs_get (h : ZS w0 w col c b g k q m) (i v : Int) (hv : ∀ cs, Holds g cs m → getZ cs i = v) : Calls Try.prog 30 #[.pointer (some ⟨b.T, 0, none⟩), .int .i64 i] w fun e w' => e = .returned (.int .i64 v) ∧ w = w' := by
  obtain ⟨O, p, h1, _⟩ := h
  rw [← hv p.1 h1.h]
  exact tr_get h1.t i
theorem zs_set (h : ZS w0 w col c b g k q m) (hk : k ≤ 1000000000) (i v : Int) (hm : ∀ cs, Holds g cs m → Holds g (setC cs i v) m') : Calls Try.prog 22 #[.pointer (some ⟨b.T, 0, none⟩), .int .i64 i, .int .i64 v] w fun e w' => e = .returned (.tuple #[]) ∧ ZSN w0 w w' col c b g (k + 1) q m' := by
  obtain ⟨O, p, h1, h2, h3⟩ := h
  refine (tr_set h1.t i v (by omega)).mono fun e w' ⟨he, hn⟩ => ⟨he, ?_⟩
  obtain ⟨O', a, hO⟩ := hn.st
  refine ⟨⟨O', setP p i v, ⟨fun j hj => ?_, fun j hj => (recol_lt (h1.f.lt hj)).trans (h1.bc j hj), a, fun j hj hO' => ?_, h1.f.moved hn.mv h1.o, hm p.1 h1.h, h1.g⟩, h2.trans (Hist.set p i v), ?_⟩, ⟨hn.mv.os, hn.mv.tape, hn.mv.output, hn.mv.size, fun j hj hne => hn.mv.block j hj fun ho => hne (h1.oc j ho)⟩⟩
  · rcases hO j hj with h5 | h5
    · exact (recol_lt (h1.t.base h5).2).trans (h1.oc j h5)
    · exact recol_ge h5
  · rcases hO j hO' with h5 | h5
    · exact h1.o j hj h5
    · have := h1.f.lt hj; omega
  · have := (setH_len p.1 p.2 i v).2
    show (setH p.1 p.2 i v).length ≤ k + 1
    omega
/-- A mark: from here on one may go back to it. -/
def ZMark (g : ZG) (k : Nat) (q : List Int × List (Int × Int)) (m : ZM) (x : Int) : Prop := x = (q.2.length : Nat) ∧ Holds g q.1 m ∧ q.2.length ≤ k
theorem zs_mark (h : ZS w0 w col c b g k q m) :
    Calls Try.prog 26 #[.pointer (some ⟨b.T, 0, none⟩)] w fun e w' => ∃ q' x, e = .returned (.int .i64 x) ∧ ZMark g k q' m x ∧ ZS w0 w col c b g k q' m ∧ Hist q q' ∧ w = w' := by
  obtain ⟨O, p, h1, h2, h3⟩ := h
  exact (tr_mark h1.t).mono fun e w' ⟨he, hw⟩ => ⟨p, _, he, ⟨rfl, h1.h, h3⟩, ⟨O, p, h1, Hist.refl p, h3⟩, h2, hw⟩
theorem zs_back (h : ZS w0 w col c b g k q m) (hk : k ≤ 1000000000) {x : Int} (hx : ZMark g n q m' x) :
    Calls Try.prog 24 #[.pointer (some ⟨b.T, 0, none⟩), .int .i64 x] w fun e w' => e = .returned (.int .i64 0) ∧ ZSN w0 w w' col c b g n q m' := by
  obtain ⟨O, p, h1, h2, h3⟩ := h
  obtain ⟨rfl, hr, hl⟩ := hx
  refine (tr_back h1.t q.2.length h2.1 (by omega)).mono fun e w' ⟨he, hn⟩ => ⟨he, ?_⟩
  rw [h2.back.1, h2.back.2] at hn
  obtain ⟨O', a, hO⟩ := hn.st
  refine ⟨⟨O', q, ⟨fun j hj => ?_, fun j hj => (recol_lt (h1.f.lt hj)).trans (h1.bc j hj), a, fun j hj hO' => ?_, h1.f.moved hn.mv h1.o, hr, h1.g⟩, Hist.refl q, hl⟩, ⟨hn.mv.os, hn.mv.tape, hn.mv.output, hn.mv.size, fun j hj hne => hn.mv.block j hj fun ho => hne (h1.oc j ho)⟩⟩
  · rcases hO j hj with h5 | h5
    · exact (recol_lt (h1.t.base h5).2).trans (h1.oc j h5)
    · exact recol_ge h5
  · rcases hO j hO' with h5 | h5
    · exact h1.o j hj h5
    · have := h1.f.lt hj; omega
end
end Go.Proofs.Ytfkkkndigkchcaa
