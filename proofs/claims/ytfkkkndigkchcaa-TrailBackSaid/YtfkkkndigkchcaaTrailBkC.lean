/- What TrailBack calls, over what it holds. No condition. -/
import Derived.Test.YtfkkkndigkchcaaTrailBk
namespace Go.Proofs.Ytfkkkndigkchcaa
open Go.RowKit

/-- The states between the rows. -/
def tbS (L : Nat → Nat) (F : Nat → Nat → Nat → Int) : Nat → List Int × List (Int × Int)
  | 0 => (List.replicate 10 0, [((-1 : Int), (10 : Int))])
  | n + 1 => smR (F n) (tbS L F n) (min (L n) 60)
theorem tbS_len (L : Nat → Nat) (F : Nat → Nat → Nat → Int) : ∀ n, (tbS L F n).1.length ≤ 50 ∧ (tbS L F n).2.length ≤ 1 + 60 * n := by
  intro n
  induction n with
  | zero => exact ⟨by show (List.replicate 10 (0 : Int)).length ≤ 50; simp, Nat.le_refl _⟩
  | succ n ih =>
    obtain ⟨_, _, _, h4, h5⟩ := smR_keeps (F n) (tbS L F n) (Nat.zero_le _) (min (L n) 60)
    exact ⟨h5 ih.1, by show (smR _ _ _).2.length ≤ _; omega⟩
theorem tbS_back (L : Nat → Nat) (F : Nat → Nat → Nat → Int) {j : Nat} : ∀ i, j ≤ i → was (tbS L F i).1 (tbS L F i).2 (tbS L F j).2.length = (tbS L F j).1 ∧ (tbS L F i).2.take (tbS L F j).2.length = (tbS L F j).2 ∧ (tbS L F j).2.length ≤ (tbS L F i).2.length := by
  intro i
  induction i with
  | zero =>
    intro h
    obtain rfl : j = 0 := by omega
    exact ⟨was_last _ _, List.take_length, Nat.le_refl _⟩
  | succ i ih =>
    intro h
    by_cases e : j = i + 1
    · subst e; exact ⟨was_last _ _, List.take_length, Nat.le_refl _⟩
    · obtain ⟨h1, h2, h3⟩ := ih (by omega)
      obtain ⟨k1, k2, k3, _, _⟩ := smR_keeps (F i) (tbS L F i) h3 (min (L i) 60)
      exact ⟨k1.trans h1, k2.trans h2, k3⟩

section
variable {w0 w : World} {col : Nat → Nat} {Bx : Nat} {arr : List Value} {T U : Nat} {us : List Int × List (Int × Int)} {mv : Value} {lm : List Int} {sv : Value} {vals : List Value} {Lw : Nat → List Int} {L : Nat → Nat} {F : Nat → Nat → Nat → Int} {i : Nat}
theorem bk_some (h : BK 0 w0 w col Bx arr T U (tbS L F i) us mv lm sv vals Lw) (hi : i ≤ 4) (a : Option Addr) (cap : Nat) (hR : Rws w0 w0.heap.size .u8 2 (.slice a (L i) cap) (L i) (F i)) (hl : ((L i : Nat) : Int) ≤ 9223372036854775807) :
    Calls Try.prog 34 #[.pointer (some ⟨T, 0, none⟩), .slice a (L i) cap] w fun e w' => e = .returned (.tuple #[]) ∧ ∃ col', BK 0 w0 w' col' Bx arr T U (tbS L F (i + 1)) us mv lm sv vals Lw := by
  obtain ⟨O, hO, hS⟩ := h.t (by decide)
  have hln := tbS_len L F i
  exact (some_any hS hln.1 (by omega) a (L i) cap _ (F i) (hR.below h.bel (Nat.le_refl _)) (Nat.le_refl _) hl).mono fun e w' ⟨he, hn⟩ => ⟨he, _, h.onT hO hS hn⟩
theorem bk_someT {ts us : List Int × List (Int × Int)} (h : BK 0 w0 w col Bx arr T U ts us mv lm sv vals Lw) (h1 : ts.1.length ≤ 50) (h2 : ts.2.length ≤ 1000) (a : Option Addr) (len cap : Nat) (G : Nat → Nat → Int) (hR : Rws w0 w0.heap.size .u8 2 (.slice a len cap) len G) (hl : (len : Int) ≤ 9223372036854775807) :
    Calls Try.prog 34 #[.pointer (some ⟨T, 0, none⟩), .slice a len cap] w fun e w' => e = .returned (.tuple #[]) ∧ ∃ col', BK 0 w0 w' col' Bx arr T U (smR G ts (min len 60)) us mv lm sv vals Lw := by
  obtain ⟨O, hO, hS⟩ := h.t (by decide)
  exact (some_any hS h1 h2 a len cap _ G (hR.below h.bel (Nat.le_refl _)) (Nat.le_refl _) hl).mono fun e w' ⟨he, hn⟩ => ⟨he, _, h.onT hO hS hn⟩
theorem bk_someU {ts us : List Int × List (Int × Int)} (h : BK 0 w0 w col Bx arr T U ts us mv lm sv vals Lw) (h1 : us.1.length ≤ 50) (h2 : us.2.length ≤ 1000) (a : Option Addr) (len cap : Nat) (G : Nat → Nat → Int) (hR : Rws w0 w0.heap.size .u8 2 (.slice a len cap) len G) (hl : (len : Int) ≤ 9223372036854775807) :
    Calls Try.prog 34 #[.pointer (some ⟨U, 0, none⟩), .slice a len cap] w fun e w' => e = .returned (.tuple #[]) ∧ ∃ col', BK 0 w0 w' col' Bx arr T U ts (smR G us (min len 60)) mv lm sv vals Lw := by
  obtain ⟨O, hO, hS⟩ := h.u (by decide)
  exact (some_any hS h1 h2 a len cap _ G (hR.below h.bel (Nat.le_refl _)) (Nat.le_refl _) hl).mono fun e w' ⟨he, hn⟩ => ⟨he, _, h.onU hO hS hn⟩
theorem bk_back (h : BK 0 w0 w col Bx arr T U (tbS L F i) us mv lm sv vals Lw) (j : Nat) (hj : j ≤ i) (hi : i ≤ 4) {m : Int} (hm : ((tbS L F j).2.length : Int) = m) :
    Calls Try.prog 24 #[.pointer (some ⟨T, 0, none⟩), .int .i64 m] w fun e w' => e = .returned (.int .i64 0) ∧ ∃ col', BK 0 w0 w' col' Bx arr T U (tbS L F j) us mv lm sv vals Lw := by
  obtain ⟨O, hO, hS⟩ := h.t (by decide)
  have hln := tbS_len L F i
  obtain ⟨b1, b2, b3⟩ := tbS_back L F i hj
  subst hm
  refine (tr_back hS _ b3 (by omega)).mono fun e w' ⟨he, hn⟩ => ⟨he, _, h.onT (ts' := tbS L F j) hO hS ?_⟩
  rw [b1, b2] at hn
  exact hn
theorem bk_mark (h : BK 0 w0 w col Bx arr T U (tbS L F i) us mv lm sv vals Lw) {m : Int} (hm : ((tbS L F i).2.length : Int) = m) :
    Calls Try.prog 26 #[.pointer (some ⟨T, 0, none⟩)] w fun e w' => e = .returned (.int .i64 m) ∧ w = w' := by
  obtain ⟨O, hO, hS⟩ := h.t (by decide)
  subst hm
  exact tr_mark hS
theorem bk_cells {ts us : List Int × List (Int × Int)} (h : BK 0 w0 w col Bx arr T U ts us mv lm sv vals Lw) :
    Calls Try.prog 33 #[.pointer (some ⟨T, 0, none⟩)] w fun e w' => ∃ a n c, e = .returned (.slice a n c) ∧ ∃ col', BK 0 w0 w' col' Bx arr T U ts us mv lm sv vals Lw ∧ RowC w' col' 5 w0.heap.size 3 1 (.slice a n c) ts.1.length (ts.1.map (Value.int .i64)) := by
  obtain ⟨O, hO, hS⟩ := h.t (by decide)
  refine (cells_any hS).mono fun e w' hx => ?_
  obtain ⟨v, he, hrow, hb⟩ := hx
  obtain ⟨a, c, rfl⟩ := hrow.any
  exact ⟨_, _, _, he, _, h.made 5 hb, RowC.fresh 5 hrow h.bel.size⟩
theorem bk_cellsU {ts us : List Int × List (Int × Int)} (h : BK 0 w0 w col Bx arr T U ts us mv lm sv vals Lw) {x : Value} {l : List Int} (hx : RowC w col 5 w0.heap.size 3 1 x l.length (l.map (Value.int .i64))) :
    Calls Try.prog 33 #[.pointer (some ⟨U, 0, none⟩)] w fun e w' => ∃ a n c, e = .returned (.slice a n c) ∧ ∃ col', BK 0 w0 w' col' Bx arr T U ts us mv lm sv vals Lw ∧ RowC w' col' 5 w0.heap.size 3 1 (.slice a n c) us.1.length (us.1.map (Value.int .i64)) ∧ RowC w' col' 5 w0.heap.size 3 1 x l.length (l.map (Value.int .i64)) := by
  obtain ⟨O, hO, hS⟩ := h.u (by decide)
  refine (cells_any hS).mono fun e w' hx' => ?_
  obtain ⟨v, he, hrow, hb⟩ := hx'
  obtain ⟨a, c, rfl⟩ := hrow.any
  exact ⟨_, _, _, he, _, h.made 5 hb, RowC.fresh 5 hrow h.bel.size, hx.made 5 hb⟩
theorem bk_alike {ts us : List Int × List (Int × Int)} (h : BK 0 w0 w col Bx arr T U ts us mv lm sv vals Lw) {x y : Value} {l : List Int} (hx : RowC w col 5 w0.heap.size 3 1 x l.length (l.map (Value.int .i64))) (hy : RowC w col 5 w0.heap.size 3 1 y l.length (l.map (Value.int .i64))) (hl : l.length ≤ 1000000) :
    Calls Try.prog 35 #[x, y] w fun e w' => e = .returned (.bool true) ∧ ∃ col', BK 0 w0 w' col' Bx arr T U ts us mv lm sv vals Lw := by
  have h1 : IRow w w0.heap.size x l := hx.1
  have h2 : IRow w w0.heap.size y l := hy.1
  refine (alike_any w.heap.size x y l l w (h1.ints (Nat.le_refl _)) (h2.ints (Nat.le_refl _)) hl).mono fun e w' hh => ?_
  obtain ⟨he, hb⟩ := hh
  rw [alk_same] at he
  exact ⟨he, _, h.made 0 hb⟩
/-- The cells that are read. -/
theorem bk_m (h : BK 0 w0 w col Bx arr T U (tbS L F i) us mv lm sv vals Lw) {g n cap j : Nat} (hmv : mv = .slice (some ⟨g, 0, none⟩) n cap) (hj : j < lm.length) {x : Int} (hx : lm.getD j 0 = x) : w.cell? ⟨g, j, none⟩ = some (.int .i64 x) := by
  have h1 : IRow w w0.heap.size mv lm := (h.m (by decide)).1
  subst hmv
  subst hx
  exact h1.cell hj
theorem own_cell {w : World} {base : Nat} {e : TypeId} {g n cap : Nat} {xs : List Value} (h : w.ownsRow base e 1 (.slice (some ⟨g, 0, none⟩) n cap) xs.length xs) {j : Nat} {x : Value} (hj : xs[j]? = some x) : w.cell? ⟨g, j, none⟩ = some x := by
  have := World.ownsRow.cells (g := g) h rfl j x hj
  by_cases h0 : j = 0
  · subst h0; exact this
  · simpa [Addr.add, h0] using this
theorem bk_s (h : BK 0 w0 w col Bx arr T U (tbS L F i) us mv lm sv vals Lw) {g n cap j : Nat} (hsv : sv = .slice (some ⟨g, 0, none⟩) n cap) {x : Value} (hx : vals[j]? = some x) : w.cell? ⟨g, j, none⟩ = some x := by
  have h1 := (h.s (by decide)).1
  subst hsv
  exact own_cell h1 hx
end
end Go.Proofs.Ytfkkkndigkchcaa
