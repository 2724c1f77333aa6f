/- An arena's contracts, memory by colours. No condition. -/
import Derived.Test.YtfkkkndigkchcaaArenaT
import Derived.Test.YtfkkkndigkchcaaRes
namespace Go.Proofs.Ytfkkkndigkchcaa
open Go.RowKit
attribute [local irreducible] Calls

/-- The arena, its trail of the colour c; q: the cells and changes at a mark ahead. -/
def AS (w0 w : World) (col : Nat → Nat) (c A Bb Ba T base cap k : Nat) (q : List Int × List (Int × Int)) (M : AM) : Prop :=
  ∃ O p, ((∀ j, O j → col j = c) ∧ col A = c ∧ col Bb = c ∧ col Ba = c) ∧ AR w0 w A Bb Ba T O base cap p M ∧ Sm base cap p M k ∧ Hist q p
section
variable {w0 w w' : World} {col : Nat → Nat} {c A Bb Ba T base cap k : Nat} {q : List Int × List (Int × Int)} {M M' : AM}
theorem AS.bel (h : AS w0 w col c A Bb Ba T base cap k q M) : Below w0.heap.size w0 w := by obtain ⟨O, p, _, h, _⟩ := h; exact h.t.bel
theorem AS.below (h : AS w0 w col c A Bb Ba T base cap k q M) (hb : Below w.heap.size w w') (a : Nat) : AS w0 w' (recol w.heap.size col a) c A Bb Ba T base cap k q M := by
  obtain ⟨O, p, h1, h2, h3, h4⟩ := h
  exact ⟨O, p, ⟨fun j hj => (recol_lt (h2.t.base hj).2).trans (h1.1 j hj), (recol_lt h2.f.a.lt).trans h1.2.1, (recol_lt h2.f.b.lt).trans h1.2.2.1, (recol_lt h2.f.c.lt).trans h1.2.2.2⟩, h2.below hb, h3, h4⟩
theorem AS.rep (h : AS w0 w col c A Bb Ba T base cap k q M) : M.g.length = cap ∧ M.u.length = cap ∧ M.row.length ≤ cap ∧ cap ≤ 256 ∧ (∀ s : Nat, s ∈ M.row ↔ s < cap ∧ M.u.getD s false = false) ∧ M.row.Nodup ∧ ∀ s, M.g.getD s 0 ≤ k := by
  obtain ⟨O, p, h1, h2, h3, h4⟩ := h
  exact ⟨h2.r.gl, h2.r.ul, h2.r.rowlen, h3.c, h2.r.mem, h2.r.nd, h3.g⟩
theorem AS.of {O : Nat → Prop} {p p' : List Int × List (Int × Int)} (h1 : (∀ j, O j → col j = c) ∧ col A = c ∧ col Bb = c ∧ col Ba = c) (h2 : AR w0 w A Bb Ba T O base cap p M) (hn : ARN w0 w w' A Bb Ba T O base cap p' M') (hs : Sm base cap p' M' k) (hh : Hist q p') : AS w0 w' (recol w.heap.size col c) c A Bb Ba T base cap k q M' ∧ Moved w w' (fun j => col j = c) := by
  obtain ⟨O', h3, h4⟩ := hn.st
  refine ⟨⟨O', p', ⟨fun j hj => ?_, (recol_lt h2.f.a.lt).trans h1.2.1, (recol_lt h2.f.b.lt).trans h1.2.2.1, (recol_lt h2.f.c.lt).trans h1.2.2.2⟩, h3, hs, hh⟩, ⟨hn.mv.os, hn.mv.tape, hn.mv.output, hn.mv.size, fun j hj hne => hn.mv.block j hj (fun ho => hne (h1.1 j ho))⟩⟩
  rcases h4 j hj with h5 | h5
  · exact (recol_lt (h2.t.base h5).2).trans (h1.1 j h5)
  · exact recol_ge h5
/-- What has another colour was written. -/
theorem AS.moved {S : Nat → Prop} {a : Nat} (h : AS w0 w col c A Bb Ba T base cap k q M) (hm : Moved w w' S) (hS : ∀ j, S j → j < w.heap.size → col j = a) (hb : ∀ j, S j → w0.heap.size ≤ j) (hne : c ≠ a) : AS w0 w' (recol w.heap.size col a) c A Bb Ba T base cap k q M := by
  obtain ⟨O, p, h1, h2, h3, h4⟩ := h
  have hbel : Below w0.heap.size w0 w' := h2.t.bel.trans (hm.below hb h2.t.bel.size)
  have hx : ∀ j, col j = c → j < w.heap.size → ¬ S j := fun j hj hl hs => hne (hj.symm.trans (hS j hs hl))
  exact ⟨O, p, ⟨fun j hj => (recol_lt (h2.t.base hj).2).trans (h1.1 j hj), (recol_lt h2.f.a.lt).trans h1.2.1, (recol_lt h2.f.b.lt).trans h1.2.2.1, (recol_lt h2.f.c.lt).trans h1.2.2.2⟩,
    ⟨h2.t.moved hm hbel (fun j hj => hx j (h1.1 j hj) (h2.t.base hj).2), h2.o, h2.f.moved hm (hx A h1.2.1 h2.f.a.lt) (hx Bb h1.2.2.1 h2.f.b.lt) (hx Ba h1.2.2.2 h2.f.c.lt), h2.r⟩, h3, h4⟩
/-- Behind a call that wrote it. -/
def ASN (w0 w w' : World) (col : Nat → Nat) (c A Bb Ba T base cap k : Nat) (q : List Int × List (Int × Int)) (M : AM) : Prop :=
  AS w0 w' (recol w.heap.size col c) c A Bb Ba T base cap k q M ∧ Moved w w' (fun j => col j = c)
theorem as_at (h : AS w0 w col c A Bb Ba T base cap k q M) (hk : k ≤ 1000000) (z : Int) : Calls Try.prog 55 #[.pointer (some ⟨A, 0, none⟩), .int .i64 z] w fun e w' => e = .returned (.int .i64 (M.at z)) ∧ Below w.heap.size w w' := by
  obtain ⟨O, p, h1, h2, h3, h4⟩ := h; exact ar_at h2 h3 hk z
theorem as_slot (h : AS w0 w col c A Bb Ba T base cap k q M) (hk : k ≤ 1000000) (z : Int) : Calls Try.prog 54 #[.pointer (some ⟨A, 0, none⟩), .int .i64 z] w fun e w' => e = .returned (.int .i64 (M.slot z)) ∧ Below w.heap.size w w' := by
  obtain ⟨O, p, h1, h2, h3, h4⟩ := h; exact ar_slot h2 h3 hk z
theorem as_valid (h : AS w0 w col c A Bb Ba T base cap k q M) (hk : k ≤ 1000000) (z : Int) : Calls Try.prog 52 #[.pointer (some ⟨A, 0, none⟩), .int .i64 z] w fun e w' => e = .returned (.bool (decide (0 ≤ M.slot z))) ∧ Below w.heap.size w w' := by
  obtain ⟨O, p, h1, h2, h3, h4⟩ := h; exact ar_valid h2 h3 hk z
theorem as_len (h : AS w0 w col c A Bb Ba T base cap k q M) : Calls Try.prog 57 #[.pointer (some ⟨A, 0, none⟩)] w fun e w' => e = .returned (.int .i64 ((cap : Int) - M.row.length)) ∧ Below w.heap.size w w' := by
  obtain ⟨O, p, h1, h2, h3, h4⟩ := h; exact ar_len h2
theorem as_full (h : AS w0 w col c A Bb Ba T base cap k q M) (hr : M.row = []) : Calls Try.prog 50 #[.pointer (some ⟨A, 0, none⟩)] w fun e w' => e = .returned (.tuple #[.int .i64 0, .int .i64 6]) ∧ Below w.heap.size w w' := by
  obtain ⟨O, p, h1, h2, h3, h4⟩ := h; exact ar_full h2 hr
theorem as_make (h : AS w0 w col c A Bb Ba T base cap k q M) (hk : k ≤ 1000000) (s : Nat) (r : List Nat) (hr : M.row = s :: r) :
    Calls Try.prog 50 #[.pointer (some ⟨A, 0, none⟩)] w fun e w' => e = .returned (.tuple #[.int .i64 (256 * ((M.g.getD s 0 + 1 : Nat) : Int) + s), .int .i64 0]) ∧ ASN w0 w w' col c A Bb Ba T base cap (k + 1) q (M.make s r) := by
  obtain ⟨O, p, h1, h2, h3, h4⟩ := h
  exact (ar_make h2 h3 hk s r hr).mono fun e w' ⟨he, hn⟩ => ⟨he, AS.of h1 h2 hn (h3.make s r) (h4.trans (Hist.make p base s))⟩
theorem as_free_no (h : AS w0 w col c A Bb Ba T base cap k q M) (hk : k ≤ 1000000) (z : Int) (hz : M.slot z < 0) : Calls Try.prog 47 #[.pointer (some ⟨A, 0, none⟩), .int .i64 z] w fun e w' => e = .returned (.int .i64 5) ∧ Below w.heap.size w w' := by
  obtain ⟨O, p, h1, h2, h3, h4⟩ := h; exact ar_free_no h2 h3 hk z hz
theorem as_free (h : AS w0 w col c A Bb Ba T base cap k q M) (hk : k ≤ 1000000) (z : Int) (s : Nat) (hz : M.slot z = s) :
    Calls Try.prog 47 #[.pointer (some ⟨A, 0, none⟩), .int .i64 z] w fun e w' => e = .returned (.int .i64 0) ∧ ASN w0 w w' col c A Bb Ba T base cap (k + 1) q (M.free s) := by
  obtain ⟨O, p, h1, h2, h3, h4⟩ := h
  exact (ar_free h2 h3 hk z s hz).mono fun e w' ⟨he, hn⟩ => ⟨he, AS.of h1 h2 hn (h3.free s) (h4.trans (Hist.free p base s))⟩
/-- A mark: from here on one may go back to it. -/
def MarkAt (base cap k : Nat) (q : List Int × List (Int × Int)) (M : AM) (m : Int) : Prop := m = (q.2.length : Nat) ∧ Rep q.1 base cap M ∧ Sm base cap q M k
theorem as_mark (h : AS w0 w col c A Bb Ba T base cap k q M) :
    Calls Try.prog 26 #[.pointer (some ⟨T, 0, none⟩)] w fun e w' => ∃ q' m, e = .returned (.int .i64 m) ∧ MarkAt base cap k q' M m ∧ AS w0 w col c A Bb Ba T base cap k q' M ∧ Hist q q' ∧ w = w' := by
  obtain ⟨O, p, h1, h2, h3, h4⟩ := h
  exact (tr_mark h2.t).mono fun e w' ⟨he, hw⟩ => ⟨p, _, he, ⟨rfl, h2.r, h3⟩, ⟨O, p, h1, h2, h3, Hist.refl p⟩, h4, hw⟩
theorem as_back (h : AS w0 w col c A Bb Ba T base cap k q M) (hk : k ≤ 1000000) {m : Int} (hm : MarkAt base cap k q M' m) :
    Calls Try.prog 24 #[.pointer (some ⟨T, 0, none⟩), .int .i64 m] w fun e w' => e = .returned (.int .i64 0) ∧ ASN w0 w w' col c A Bb Ba T base cap k q M' := by
  obtain ⟨O, p, h1, h2, h3, h4⟩ := h
  obtain ⟨rfl, hr, hs⟩ := hm
  exact (ar_back h2 h4 hr (by have := h3.l; omega)).mono fun e w' ⟨he, hn⟩ => ⟨he, AS.of h1 h2 hn hs (Hist.refl q)⟩
theorem MarkAt.mono {m : Int} {n : Nat} (h : MarkAt base cap k q M m) (hn : k ≤ n) : MarkAt base cap n q M m := ⟨h.1, h.2.1, h.2.2.mono hn⟩
theorem AS.mono {n : Nat} (h : AS w0 w col c A Bb Ba T base cap k q M) (hn : k ≤ n) : AS w0 w col c A Bb Ba T base cap n q M := by
  obtain ⟨O, p, h1, h2, h3, h4⟩ := h; exact ⟨O, p, h1, h2, h3.mono hn, h4⟩
theorem AS.ofHist {q' : List Int × List (Int × Int)} (h : AS w0 w col c A Bb Ba T base cap k q M) (hh : Hist q' q) : AS w0 w col c A Bb Ba T base cap k q' M := by
  obtain ⟨O, p, h1, h2, h3, h4⟩ := h; exact ⟨O, p, h1, h2, h3, hh.trans h4⟩
/-- An arena of one's own, on a trail of one's own. -/
theorem as_start (w : World) (n : Nat) (h1 : 1 ≤ n) (hn : n ≤ 256) (w1 : World) (hT : TrS w w1 T (ownT T none none) [] []) (hc : ∀ j, ownT T none none j → col j = c) :
    Calls Try.prog 44 #[.pointer (some ⟨T, 0, none⟩), .int .i64 (n : Int)] w1 fun e w' => ∃ A Bb Ba q, e = .returned (.pointer (some ⟨A, 0, none⟩)) ∧ ASN w w1 w' col c A Bb Ba T 0 n 0 q (AM.new n) ∧ (w1.heap.size ≤ A ∧ w1.heap.size ≤ Bb ∧ w1.heap.size ≤ Ba) := by
  refine (ar_new hT n h1 hn (by simp) (by simp)).mono ?_
  rintro e w' ⟨A, Bb, Ba, he, hN, hlo⟩
  refine ⟨A, Bb, Ba, newP [] [] n, he, ?_, hlo⟩
  obtain ⟨O', h3, h4⟩ := hN.st
  refine ⟨⟨O', _, ⟨fun j hj => ?_, recol_ge hlo.1, recol_ge hlo.2.1, recol_ge hlo.2.2⟩, h3, new_sm (cs := []) (hs := []) n h1 hn (by simp) (by simp), Hist.refl _⟩, ⟨hN.mv.os, hN.mv.tape, hN.mv.output, hN.mv.size, fun j hj hne => hN.mv.block j hj (fun ho => hne (hc j ho))⟩⟩
  rcases h4 j hj with h5 | h5
  · exact (recol_lt (hT.base h5).2).trans (hc j h5)
  · exact recol_ge h5
/-! make1. -/
theorem mk1 (h : AS w0 w col c A Bb Ba T base cap k q M) (hk : k ≤ 1000000) (s : Nat) (r : List Nat) (hr : M.row = s :: r) :
    Calls Try.prog 62 #[.pointer (some ⟨A, 0, none⟩)] w fun e w' => e = .returned (.int .i64 (256 * ((M.g.getD s 0 + 1 : Nat) : Int) + s)) ∧ ASN w0 w w' col c A Bb Ba T base cap (k + 1) q (M.make s r) := by
  have hm := Lib.hid (as_make h hk s r hr)
  clear h hr
  go_enter Try.func62, Try.ntmps62
  go_wp2_with (go_at_call 50; refine hm.out.mono ?_; rintro e w1 ⟨rfl, hN⟩)
  go_ret
  exact ⟨rfl, hN⟩
theorem mk1_full (h : AS w0 w col c A Bb Ba T base cap k q M) (hr : M.row = []) :
    Calls Try.prog 62 #[.pointer (some ⟨A, 0, none⟩)] w fun e w' => e = .returned (.int .i64 (-1)) ∧ Below w.heap.size w w' := by
  have hm := Lib.hid (as_full h hr)
  clear h hr
  go_enter Try.func62, Try.ntmps62
  go_wp2_with (go_at_call 50; refine hm.out.mono ?_; rintro e w1 ⟨rfl, hN⟩)
  go_ret
  exact ⟨rfl, hN⟩
end
end Go.Proofs.Ytfkkkndigkchcaa
