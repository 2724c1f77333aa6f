/- What ArenaPlays holds, by colours. No condition. -/
import Derived.Test.YtfkkkndigkchcaaArenaQ
import Derived.Test.YtfkkkndigkchcaaTrailBk
namespace Go.Proofs.Ytfkkkndigkchcaa
open Go.RowKit
attribute [local irreducible] Calls

/-- The document's arena, its blocks of the colour c. -/
def DC (w : World) (col : Nat → Nat) (c base A : Nat) (M : AM) : Prop := ∃ rv gv uv, DA w base A rv gv uv M ∧ ∀ j, daB A rv gv uv j → col j = c
section
variable {w w' : World} {col : Nat → Nat} {c a base A n : Nat} {M M' : AM} {S : Nat → Prop}
theorem DC.step (h : DC w col c base A M) (hm : Moved w w' S) (hS : ∀ k, S k → k < w.heap.size → col k = a) (hne : c ≠ a) : DC w' (recol w.heap.size col a) c base A M := by
  obtain ⟨rv, gv, uv, h1, h2⟩ := h
  exact ⟨rv, gv, uv, h1.moved hm fun j hj hs => hne ((h2 j hj).symm.trans (hS j hs (h1.lt hj).2)), fun j hj => (recol_lt (h1.lt hj).2).trans (h2 j hj)⟩
theorem DC.made (x : Nat) (h : DC w col c base A M) (hb : Below w.heap.size w w') : DC w' (recol w.heap.size col x) c base A M := by
  obtain ⟨rv, gv, uv, h1, h2⟩ := h
  exact ⟨rv, gv, uv, h1.below hb, fun j hj => (recol_lt (h1.lt hj).2).trans (h2 j hj)⟩
theorem DC.fresh (x : Nat) {rv gv uv : Value} (h : DA w' w.heap.size A rv gv uv M) (hb : base ≤ w.heap.size) : DC w' (recol w.heap.size col x) x base A M :=
  ⟨rv, gv, uv, ⟨h.a, own_mono' h.r hb, own_mono' h.g hb, own_mono' h.u hb, h.ne, Nat.le_trans hb h.hb⟩, fun _ hj => recol_ge (h.lt hj).1⟩
theorem DC.own {rv gv uv rv' gv' uv' : Value} (h1 : DA w base A rv gv uv M) (h2 : ∀ j, daB A rv gv uv j → col j = c) (h3 : DA w' base A rv' gv' uv' M') (h4 : ∀ j, daB A rv' gv' uv' j → daB A rv gv uv j ∨ w.heap.size ≤ j) : DC w' (recol w.heap.size col c) c base A M' :=
  ⟨_, _, _, h3, fun j hj => (h4 j hj).elim (fun h5 => (recol_lt (h1.lt h5).2).trans (h2 j h5)) (fun h5 => recol_ge h5)⟩
end
structure AG where
  A : Nat
  T : Nat
  cap : Nat
structure AZ where
  k : Nat
  q : List Int × List (Int × Int)
  M : AM
  Rp : Nat
  Md : AM
  mv : Value
  made : List Int
  kv : Value
  ks : List Int
  sv : Value
  ps : List (Nat × AM)
  X : Nat
  xs : List Value
def ptrs (ps : List (Nat × AM)) : List Value := ps.map fun p => .pointer (some ⟨p.1, 0, none⟩)
structure AP (x : Nat) (w0 w : World) (col : Nat → Nat) (Bb Ba : Nat) (g : AG) (s : AZ) : Prop where
  bel : Below w0.heap.size w0 w
  a : x ≠ 1 → AS w0 w col 1 g.A Bb Ba g.T 0 g.cap s.k s.q s.M
  d : x ≠ 2 → DC w col 2 w0.heap.size s.Rp s.Md
  sd : x ≠ 3 → ∀ p ∈ s.ps, DC w col 3 w0.heap.size p.1 p.2
  md : x ≠ 4 → RowC w col 4 w0.heap.size 3 1 s.mv s.made.length (s.made.map (Value.int .i64))
  mm : x ≠ 5 → RowC w col 5 w0.heap.size 3 1 s.kv s.ks.length (s.ks.map (Value.int .i64))
  sv : x ≠ 6 → RowC w col 6 w0.heap.size 58 1 s.sv s.ps.length (ptrs s.ps)
  bx : x ≠ 7 → Arr w s.X 62 s.xs ∧ col s.X = 7
def QP (w0 w : World) (g : AG) (s : AZ) : Prop := ∃ col Bb Ba, AP 0 w0 w col Bb Ba g s
section
variable {w0 w w' : World} {col : Nat → Nat} {Bb Ba n : Nat} {g : AG} {s : AZ} {S : Nat → Prop}
theorem AP.rest {a : Nat} (h : AP 0 w0 w col Bb Ba g s) (hbel : Below w0.heap.size w0 w') (hm : Moved w w' S) (hS : ∀ k, S k → k < w.heap.size → col k = a) (ha : a ≠ 1 → AS w0 w' (recol w.heap.size col a) 1 g.A Bb Ba g.T 0 g.cap s.k s.q s.M) : AP a w0 w' (recol w.heap.size col a) Bb Ba g s := by
  have hx := h.bx (by decide)
  refine ⟨hbel, ha, fun hn => (h.d (by decide)).step hm hS (Ne.symm hn), fun hn p hp => (h.sd (by decide) p hp).step hm hS (Ne.symm hn), fun hn => (h.md (by decide)).step hm hS (Ne.symm hn), fun hn => (h.mm (by decide)).step hm hS (Ne.symm hn), fun hn => (h.sv (by decide)).step hm hS (Ne.symm hn), fun hn => ⟨?_, (recol_lt hx.1.lt).trans hx.2⟩⟩
  exact (hm.block s.X hx.1.lt fun hs => hn ((hS s.X hs hx.1.lt).symm.trans hx.2)).trans hx.1
theorem AP.moved {a : Nat} (h : AP 0 w0 w col Bb Ba g s) (hm : Moved w w' S) (hS : ∀ k, S k → k < w.heap.size → col k = a) (hb : ∀ k, S k → w0.heap.size ≤ k) : AP a w0 w' (recol w.heap.size col a) Bb Ba g s :=
  h.rest (h.bel.trans (hm.below hb h.bel.size)) hm hS fun hn => (h.a (by decide)).moved hm hS hb (Ne.symm hn)
theorem AP.made (a : Nat) (h : AP 0 w0 w col Bb Ba g s) (hb : Below w.heap.size w w') : AP 0 w0 w' (recol w.heap.size col a) Bb Ba g s := by
  have hx := h.bx (by decide)
  exact ⟨fb_call h.bel hb, fun _ => (h.a (by decide)).below hb a, fun _ => (h.d (by decide)).made a hb, fun _ p hp => (h.sd (by decide) p hp).made a hb, fun _ => (h.md (by decide)).made a hb, fun _ => (h.mm (by decide)).made a hb, fun _ => (h.sv (by decide)).made a hb, fun _ => ⟨(hb.block _ hx.1.lt).trans hx.1, (recol_lt hx.1.lt).trans hx.2⟩⟩
theorem QP.bel (h : QP w0 w g s) : Below w0.heap.size w0 w := by obtain ⟨_, _, _, h⟩ := h; exact h.bel
theorem QP.box (h : QP w0 w g s) : Arr w s.X 62 s.xs := by obtain ⟨_, _, _, h⟩ := h; exact (h.bx (by decide)).1
theorem QP.made (h : QP w0 w g s) : IRow w w0.heap.size s.mv s.made := by obtain ⟨_, _, _, h⟩ := h; exact (h.md (by decide)).1
theorem QP.marks (h : QP w0 w g s) : IRow w w0.heap.size s.kv s.ks := by obtain ⟨_, _, _, h⟩ := h; exact (h.mm (by decide)).1
theorem QP.saved (h : QP w0 w g s) : w.ownsRow w0.heap.size 58 1 s.sv s.ps.length (ptrs s.ps) := by obtain ⟨_, _, _, h⟩ := h; exact (h.sv (by decide)).1
theorem QP.below (h : QP w0 w g s) (hb : Below w.heap.size w w') : QP w0 w' g s := by obtain ⟨_, _, _, h⟩ := h; exact ⟨_, _, _, h.made 0 hb⟩
theorem QP.rep (h : QP w0 w g s) : s.M.g.length = g.cap ∧ s.M.u.length = g.cap ∧ s.M.row.length ≤ g.cap ∧ g.cap ≤ 256 ∧ (∀ t : Nat, t ∈ s.M.row ↔ t < g.cap ∧ s.M.u.getD t false = false) ∧ s.M.row.Nodup ∧ ∀ t, s.M.g.getD t 0 ≤ s.k := by
  obtain ⟨_, _, _, h⟩ := h; exact (h.a (by decide)).rep
theorem QP.ok (h : QP w0 w g s) (hk : s.k ≤ 1000000) (h1 : 1 ≤ g.cap) : AOk s.M g.cap := by
  obtain ⟨h2, h3, h4, h5, h6, h7, h8⟩ := h.rep
  exact ⟨h1, h5, h2, h3, h4, fun t ht => ((h6 t).1 ht).1, fun t => Nat.le_trans (h8 t) hk⟩
/-! The arena. -/
theorem AP.onA {k' : Nat} {q' : List Int × List (Int × Int)} {M' : AM} (h : AP 0 w0 w col Bb Ba g s) (hN : ASN w0 w w' col 1 g.A Bb Ba g.T 0 g.cap k' q' M') : QP w0 w' g { s with k := k', q := q', M := M' } := by
  have k := h.rest (a := 1) hN.1.bel hN.2 (fun k hk _ => hk) (fun hn => absurd rfl hn)
  exact ⟨_, _, _, k.bel, fun _ => hN.1, fun _ => k.d (by decide), fun _ => k.sd (by decide), fun _ => k.md (by decide), fun _ => k.mm (by decide), fun _ => k.sv (by decide), fun _ => k.bx (by decide)⟩
theorem p_at (h : QP w0 w g s) (hk : s.k ≤ 1000000) (z : Int) : Calls Try.prog 55 #[.pointer (some ⟨g.A, 0, none⟩), .int .i64 z] w fun e w' => e = .returned (.int .i64 (s.M.at z)) ∧ Below w.heap.size w w' := by
  obtain ⟨_, _, _, h⟩ := h; exact as_at (h.a (by decide)) hk z
theorem p_slot (h : QP w0 w g s) (hk : s.k ≤ 1000000) (z : Int) : Calls Try.prog 54 #[.pointer (some ⟨g.A, 0, none⟩), .int .i64 z] w fun e w' => e = .returned (.int .i64 (s.M.slot z)) ∧ Below w.heap.size w w' := by
  obtain ⟨_, _, _, h⟩ := h; exact as_slot (h.a (by decide)) hk z
theorem p_valid (h : QP w0 w g s) (hk : s.k ≤ 1000000) (z : Int) : Calls Try.prog 52 #[.pointer (some ⟨g.A, 0, none⟩), .int .i64 z] w fun e w' => e = .returned (.bool (decide (0 ≤ s.M.slot z))) ∧ Below w.heap.size w w' := by
  obtain ⟨_, _, _, h⟩ := h; exact as_valid (h.a (by decide)) hk z
theorem p_len (h : QP w0 w g s) : Calls Try.prog 57 #[.pointer (some ⟨g.A, 0, none⟩)] w fun e w' => e = .returned (.int .i64 ((g.cap : Int) - s.M.row.length)) ∧ Below w.heap.size w w' := by
  obtain ⟨_, _, _, h⟩ := h; exact as_len (h.a (by decide))
theorem p_full (h : QP w0 w g s) (hr : s.M.row = []) : Calls Try.prog 50 #[.pointer (some ⟨g.A, 0, none⟩)] w fun e w' => e = .returned (.tuple #[.int .i64 0, .int .i64 6]) ∧ Below w.heap.size w w' := by
  obtain ⟨_, _, _, h⟩ := h; exact as_full (h.a (by decide)) hr
theorem p_make (h : QP w0 w g s) (hk : s.k ≤ 1000000) (t : Nat) (r : List Nat) (hr : s.M.row = t :: r) :
    Calls Try.prog 50 #[.pointer (some ⟨g.A, 0, none⟩)] w fun e w' => e = .returned (.tuple #[.int .i64 (256 * ((s.M.g.getD t 0 + 1 : Nat) : Int) + t), .int .i64 0]) ∧ QP w0 w' g { s with k := s.k + 1, M := s.M.make t r } := by
  obtain ⟨_, _, _, h⟩ := h
  exact (as_make (h.a (by decide)) hk t r hr).mono fun e w' ⟨he, hN⟩ => ⟨he, h.onA hN⟩
theorem p_free_no (h : QP w0 w g s) (hk : s.k ≤ 1000000) (z : Int) (hz : s.M.slot z < 0) : Calls Try.prog 47 #[.pointer (some ⟨g.A, 0, none⟩), .int .i64 z] w fun e w' => e = .returned (.int .i64 5) ∧ Below w.heap.size w w' := by
  obtain ⟨_, _, _, h⟩ := h; exact as_free_no (h.a (by decide)) hk z hz
theorem p_free (h : QP w0 w g s) (hk : s.k ≤ 1000000) (z : Int) (t : Nat) (hz : s.M.slot z = t) :
    Calls Try.prog 47 #[.pointer (some ⟨g.A, 0, none⟩), .int .i64 z] w fun e w' => e = .returned (.int .i64 0) ∧ QP w0 w' g { s with k := s.k + 1, M := s.M.free t } := by
  obtain ⟨_, _, _, h⟩ := h
  exact (as_free (h.a (by decide)) hk z t hz).mono fun e w' ⟨he, hN⟩ => ⟨he, h.onA hN⟩
theorem p_mark (h : QP w0 w g s) : Calls Try.prog 26 #[.pointer (some ⟨g.T, 0, none⟩)] w fun e w' => ∃ q' x, e = .returned (.int .i64 x) ∧ MarkAt 0 g.cap s.k q' s.M x ∧ QP w0 w g { s with q := q' } ∧ Hist s.q q' ∧ w = w' := by
  obtain ⟨_, _, _, h⟩ := h
  refine (as_mark (h.a (by decide))).mono fun e w' ⟨q', x, he, h1, h2, h3, h4⟩ => ⟨q', x, he, h1, ⟨_, _, _, h.bel, fun _ => h2, h.d, h.sd, h.md, h.mm, h.sv, h.bx⟩, h3, h4⟩
theorem p_back (h : QP w0 w g s) (hk : s.k ≤ 1000000) {M' : AM} {x : Int} (hm : MarkAt 0 g.cap s.k s.q M' x) : Calls Try.prog 24 #[.pointer (some ⟨g.T, 0, none⟩), .int .i64 x] w fun e w' => e = .returned (.int .i64 0) ∧ QP w0 w' g { s with M := M' } := by
  obtain ⟨_, _, _, h⟩ := h
  exact (as_back (h.a (by decide)) hk hm).mono fun e w' ⟨he, hN⟩ => ⟨he, h.onA hN⟩
theorem QP.hist {q' : List Int × List (Int × Int)} (h : QP w0 w g s) (hh : Hist q' s.q) : QP w0 w g { s with q := q' } := by
  obtain ⟨_, _, _, h⟩ := h
  exact ⟨_, _, _, h.bel, fun _ => (h.a (by decide)).ofHist hh, h.d, h.sd, h.md, h.mm, h.sv, h.bx⟩
theorem QP.mono {k' : Nat} (h : QP w0 w g s) (hk : s.k ≤ k') : QP w0 w g { s with k := k' } := by
  obtain ⟨_, _, _, h⟩ := h
  exact ⟨_, _, _, h.bel, fun _ => (h.a (by decide)).mono hk, h.d, h.sd, h.md, h.mm, h.sv, h.bx⟩
/-! The document's. -/
theorem d_at (h : QP w0 w g s) (ho : AOk s.Md n) (z : Int) : Calls Try.prog 56 #[.pointer (some ⟨s.Rp, 0, none⟩), .int .i64 z] w fun e w' => e = .returned (.int .i64 (s.Md.at z)) ∧ w = w' := by
  obtain ⟨_, _, _, h⟩ := h
  obtain ⟨rv, gv, uv, h1, _⟩ := h.d (by decide)
  exact dat_any h1 ho z
theorem d_slot (h : QP w0 w g s) (ho : AOk s.Md n) (z : Int) (hz : z ≤ 9223372036854775807) : Calls Try.prog 53 #[.pointer (some ⟨s.Rp, 0, none⟩), .int .i64 z] w fun e w' => e = .returned (.int .i64 (s.Md.slot z)) ∧ w = w' := by
  obtain ⟨_, _, _, h⟩ := h
  obtain ⟨rv, gv, uv, h1, _⟩ := h.d (by decide)
  exact dslot_any h1 ho z hz
theorem d_len (h : QP w0 w g s) (ho : AOk s.Md n) : Calls Try.prog 58 #[.pointer (some ⟨s.Rp, 0, none⟩)] w fun e w' => e = .returned (.int .i64 ((n : Int) - s.Md.row.length)) ∧ Below w.heap.size w w' := by
  obtain ⟨_, _, _, h⟩ := h
  obtain ⟨rv, gv, uv, h1, _⟩ := h.d (by decide)
  exact dlen_any h1 ho
theorem d_full (h : QP w0 w g s) (hr : s.Md.row = []) : Calls Try.prog 51 #[.pointer (some ⟨s.Rp, 0, none⟩)] w fun e w' => e = .returned (.tuple #[.int .i64 0, .int .i64 6]) ∧ w = w' := by
  obtain ⟨_, _, _, h⟩ := h
  obtain ⟨rv, gv, uv, h1, _⟩ := h.d (by decide)
  exact dmake_full h1 hr
theorem AP.onD {M' : AM} {rv gv uv rv' gv' uv' : Value} (h : AP 0 w0 w col Bb Ba g s) (h1 : DA w w0.heap.size s.Rp rv gv uv s.Md) (h2 : ∀ j, daB s.Rp rv gv uv j → col j = 2) (h3 : DA w' w0.heap.size s.Rp rv' gv' uv' M') (hm : Moved w w' (daB s.Rp rv gv uv)) (h4 : ∀ j, daB s.Rp rv' gv' uv' j → daB s.Rp rv gv uv j ∨ w.heap.size ≤ j) : QP w0 w' g { s with Md := M' } := by
  have k := h.moved (a := 2) hm (fun k hk _ => h2 k hk) (fun k hk => (h1.lt hk).1)
  exact ⟨_, _, _, k.bel, fun _ => k.a (by decide), fun _ => DC.own h1 h2 h3 h4, fun _ => k.sd (by decide), fun _ => k.md (by decide), fun _ => k.mm (by decide), fun _ => k.sv (by decide), fun _ => k.bx (by decide)⟩
theorem d_make (h : QP w0 w g s) (ho : AOk s.Md n) (t : Nat) (r : List Nat) (hr : s.Md.row = t :: r) (hg : s.Md.g.getD t 0 < 1000000) :
    Calls Try.prog 51 #[.pointer (some ⟨s.Rp, 0, none⟩)] w fun e w' => e = .returned (.tuple #[.int .i64 (256 * ((s.Md.g.getD t 0 + 1 : Nat) : Int) + t), .int .i64 0]) ∧ QP w0 w' g { s with Md := s.Md.make t r } := by
  obtain ⟨_, _, _, h⟩ := h
  obtain ⟨rv, gv, uv, h1, h2⟩ := h.d (by decide)
  exact (dmake_any h1 ho t r hr hg).mono fun e w' ⟨he, rv', h3, h4, h5⟩ => ⟨he, h.onD h1 h2 h3 h4 h5⟩
theorem d_free_no (h : QP w0 w g s) (ho : AOk s.Md n) (z : Int) (hz : z ≤ 9223372036854775807) (hz0 : s.Md.slot z < 0) : Calls Try.prog 48 #[.pointer (some ⟨s.Rp, 0, none⟩), .int .i64 z] w fun e w' => e = .returned (.int .i64 5) ∧ w = w' := by
  obtain ⟨_, _, _, h⟩ := h
  obtain ⟨rv, gv, uv, h1, h2⟩ := h.d (by decide)
  exact dfree_no h1 ho z hz hz0
theorem d_free (h : QP w0 w g s) (ho : AOk s.Md n) (z : Int) (hz : z ≤ 9223372036854775807) (t : Nat) (hzt : s.Md.slot z = t) (htn : t < n) :
    Calls Try.prog 48 #[.pointer (some ⟨s.Rp, 0, none⟩), .int .i64 z] w fun e w' => e = .returned (.int .i64 0) ∧ QP w0 w' g { s with Md := s.Md.free t } := by
  obtain ⟨_, _, _, h⟩ := h
  obtain ⟨rv, gv, uv, h1, h2⟩ := h.d (by decide)
  exact (dfree_any h1 ho z hz t hzt htn).mono fun e w' ⟨he, rv', h3, h4, h5⟩ => ⟨he, h.onD h1 h2 h3 h4 h5⟩
/-- A copy of the document's, kept. -/
theorem d_copy (h : QP w0 w g s) (ho : AOk s.Md n) : Calls Try.prog 49 #[.pointer (some ⟨s.Rp, 0, none⟩)] w fun e w' => ∃ A', e = .returned (.pointer (some ⟨A', 0, none⟩)) ∧ Below w.heap.size w w' ∧ ∃ col Bb Ba, AP 0 w0 w' col Bb Ba g s ∧ DC w' col 3 w0.heap.size A' s.Md := by
  obtain ⟨_, _, _, h⟩ := h
  obtain ⟨rv, gv, uv, h1, h2⟩ := h.d (by decide)
  exact (dcopy_any h1 ho).mono fun e w' ⟨A', rv', gv', uv', he, h3, hb⟩ => ⟨A', he, hb, _, _, _, h.made 3 hb, DC.fresh 3 h3 h.bel.size⟩
/-- A copy of a kept one, the document's own now. -/
theorem d_again (h : QP w0 w g s) {p : Nat × AM} (hp : p ∈ s.ps) (ho : AOk p.2 n) : Calls Try.prog 49 #[.pointer (some ⟨p.1, 0, none⟩)] w fun e w' => ∃ A', e = .returned (.pointer (some ⟨A', 0, none⟩)) ∧ QP w0 w' g { s with Rp := A', Md := p.2 } := by
  obtain ⟨_, _, _, h⟩ := h
  obtain ⟨rv, gv, uv, h1, h2⟩ := h.sd (by decide) p hp
  refine (dcopy_any h1 ho).mono fun e w' ⟨A', rv', gv', uv', he, h3, hb⟩ => ⟨A', he, ?_⟩
  have k := h.made 2 hb
  exact ⟨_, _, _, k.bel, k.a, fun _ => DC.fresh 2 h3 h.bel.size, k.sd, k.md, k.mm, k.sv, k.bx⟩
/-! The rows. -/
theorem QP.app4 {v : Value} {x : Int} (h : QP w0 w g s) (hw : IRow w' w0.heap.size v (s.made ++ [x])) (hg : w.grownBy w' s.mv.ownBlock) (hf : ∀ k, v.ownBlock = some k → s.mv.ownBlock = some k ∨ w.heap.size ≤ k) : QP w0 w' g { s with mv := v, made := s.made ++ [x] } := by
  obtain ⟨_, _, _, h⟩ := h
  have hm := h.md (by decide)
  have k := h.moved (a := 4) (moved_grown hg) (fun k hk _ => hm.2 k hk) (row_base hm.1)
  exact ⟨_, _, _, k.bel, fun _ => k.a (by decide), fun _ => k.d (by decide), fun _ => k.sd (by decide), fun _ => hm.grew hw hf, fun _ => k.mm (by decide), fun _ => k.sv (by decide), fun _ => k.bx (by decide)⟩
theorem QP.app5 {v : Value} {x : Int} (h : QP w0 w g s) (hw : IRow w' w0.heap.size v (s.ks ++ [x])) (hg : w.grownBy w' s.kv.ownBlock) (hf : ∀ k, v.ownBlock = some k → s.kv.ownBlock = some k ∨ w.heap.size ≤ k) : QP w0 w' g { s with kv := v, ks := s.ks ++ [x] } := by
  obtain ⟨_, _, _, h⟩ := h
  have hm := h.mm (by decide)
  have k := h.moved (a := 5) (moved_grown hg) (fun k hk _ => hm.2 k hk) (row_base hm.1)
  exact ⟨_, _, _, k.bel, fun _ => k.a (by decide), fun _ => k.d (by decide), fun _ => k.sd (by decide), fun _ => k.md (by decide), fun _ => hm.grew hw hf, fun _ => k.sv (by decide), fun _ => k.bx (by decide)⟩
theorem AP.app6 {v : Value} {A' : Nat} {M' : AM} (h : AP 0 w0 w col Bb Ba g s) (hd : DC w col 3 w0.heap.size A' M') (hw : w'.ownsRow w0.heap.size 58 1 v (s.ps.length + 1) (ptrs s.ps ++ [.pointer (some ⟨A', 0, none⟩)])) (hg : w.grownBy w' s.sv.ownBlock) (hf : ∀ k, v.ownBlock = some k → s.sv.ownBlock = some k ∨ w.heap.size ≤ k) : QP w0 w' g { s with sv := v, ps := s.ps ++ [(A', M')] } := by
  have hm := h.sv (by decide)
  have k := h.moved (a := 6) (moved_grown hg) (fun k hk _ => hm.2 k hk) (row_base hm.1)
  refine ⟨_, _, _, k.bel, fun _ => k.a (by decide), fun _ => k.d (by decide), fun _ p hp => ?_, fun _ => k.md (by decide), fun _ => k.mm (by decide), fun _ => ?_, fun _ => k.bx (by decide)⟩
  · rcases List.mem_append.1 hp with hp | hp
    · exact k.sd (by decide) p hp
    · rw [List.mem_singleton.1 hp]
      exact hd.step (moved_grown hg) (fun k hk _ => hm.2 k hk) (by decide)
  · show RowC _ _ 6 _ _ 1 v (s.ps ++ [(A', M')]).length (ptrs (s.ps ++ [(A', M')]))
    rw [List.length_append, show ptrs (s.ps ++ [(A', M')]) = ptrs s.ps ++ [.pointer (some ⟨A', 0, none⟩)] from by unfold ptrs; rw [List.map_append]; rfl]
    exact hm.grew hw hf
theorem rowTake {w : World} {base : Nat} {e : TypeId} {B n m cap : Nat} {xs : List Value} (h : w.ownsRow base e 1 (.slice (some ⟨B, 0, none⟩) n cap) n xs) (hm : m ≤ n) : w.ownsRow base e 1 (.slice (some ⟨B, 0, none⟩) m cap) m (xs.take m) := by
  have hl := h.1
  rcases h.2 with ⟨hv, _⟩ | ⟨g, c, cur, hv, hb, hg, hn, hmx, hs, ht⟩
  · cases hv
  · injection hv with e1 _ e3
    injection e1 with e1
    injection e1 with e1
    subst e1 e3
    refine ⟨by simp at hl ⊢; omega, .inr ⟨B, cap, cur, rfl, hb, hg, by omega, hmx, hs, ?_⟩⟩
    rw [← ht, List.take_take]
    congr 1; omega
theorem QP.cut5 {B m cap : Nat} (h : QP w0 w g s) (hks : s.ks.length = m + 1) (hv : s.kv = .slice (some ⟨B, 0, none⟩) (m + 1) cap) : QP w0 w g { s with kv := .slice (some ⟨B, 0, none⟩) m cap, ks := s.ks.take m } := by
  obtain ⟨_, _, _, h⟩ := h
  refine ⟨_, _, _, h.bel, h.a, h.d, h.sd, h.md, fun _ => ?_, h.sv, h.bx⟩
  have hm := h.mm (by decide)
  rw [hks, hv] at hm
  show RowC _ _ 5 _ _ 1 _ (s.ks.take m).length _
  rw [List.length_take, show min m s.ks.length = m by omega, List.map_take]
  exact ⟨rowTake hm.1 (by omega), fun k hk => hm.2 k hk⟩
theorem QP.cut6 {B m cap : Nat} (h : QP w0 w g s) (hps : s.ps.length = m + 1) (hv : s.sv = .slice (some ⟨B, 0, none⟩) (m + 1) cap) : QP w0 w g { s with sv := .slice (some ⟨B, 0, none⟩) m cap, ps := s.ps.take m } := by
  obtain ⟨_, _, _, h⟩ := h
  refine ⟨_, _, _, h.bel, h.a, h.d, fun _ p hp => h.sd (by decide) p (List.mem_of_mem_take hp), h.md, h.mm, fun _ => ?_, h.bx⟩
  have hm := h.sv (by decide)
  rw [hps, hv] at hm
  show RowC _ _ 6 _ _ 1 _ (s.ps.take m).length (ptrs (s.ps.take m))
  rw [List.length_take, show min m s.ps.length = m by omega, show ptrs (s.ps.take m) = (ptrs s.ps).take m from by unfold ptrs; rw [List.map_take]]
  exact ⟨rowTake hm.1 (by omega), fun k hk => hm.2 k hk⟩
/-- Between two acts. -/
def QR (w0 w : World) (g : AG) (s : AZ) : Prop := ∃ col Bb Ba, AP 7 w0 w col Bb Ba g s
theorem QP.rest (h : QP w0 w g s) : QR w0 w g s := by
  obtain ⟨_, _, _, h⟩ := h
  exact ⟨_, _, _, h.bel, fun _ => h.a (by decide), fun _ => h.d (by decide), fun _ => h.sd (by decide), fun _ => h.md (by decide), fun _ => h.mm (by decide), fun _ => h.sv (by decide), fun hn => absurd rfl hn⟩
theorem QR.bel (h : QR w0 w g s) : Below w0.heap.size w0 w := by obtain ⟨_, _, _, h⟩ := h; exact h.bel
/-- A new act. -/
theorem QR.act {X' : Nat} {xs' : List Value} (h : QR w0 w g s) (hb : Below w.heap.size w w') (ha : Arr w' X' 62 xs') (hX : w.heap.size ≤ X') : QP w0 w' g { s with X := X', xs := xs' } := by
  obtain ⟨_, _, _, h⟩ := h
  exact ⟨_, _, _, fb_call h.bel hb, fun _ => (h.a (by decide)).below hb 7, fun _ => (h.d (by decide)).made 7 hb, fun _ p hp => (h.sd (by decide) p hp).made 7 hb, fun _ => (h.md (by decide)).made 7 hb, fun _ => (h.mm (by decide)).made 7 hb, fun _ => (h.sv (by decide)).made 7 hb, fun _ => ⟨ha, recol_ge hX⟩⟩
theorem QR.below (h : QR w0 w g s) (hb : Below w.heap.size w w') : QR w0 w' g s := by
  obtain ⟨_, _, _, h⟩ := h
  exact ⟨_, _, _, fb_call h.bel hb, fun _ => (h.a (by decide)).below hb 9, fun _ => (h.d (by decide)).made 9 hb, fun _ p hp => (h.sd (by decide) p hp).made 9 hb, fun _ => (h.md (by decide)).made 9 hb, fun _ => (h.mm (by decide)).made 9 hb, fun _ => (h.sv (by decide)).made 9 hb, fun hn => absurd rfl hn⟩
theorem QR.made (h : QR w0 w g s) : IRow w w0.heap.size s.mv s.made := by obtain ⟨_, _, _, h⟩ := h; exact (h.md (by decide)).1
theorem QR.ok (h : QR w0 w g s) (hk : s.k ≤ 1000000) (h1 : 1 ≤ g.cap) : AOk s.M g.cap := by
  obtain ⟨_, _, _, h⟩ := h
  obtain ⟨h2, h3, h4, h5, h6, h7, h8⟩ := (h.a (by decide)).rep
  exact ⟨h1, h5, h2, h3, h4, fun t ht => ((h6 t).1 ht).1, fun t => Nat.le_trans (h8 t) hk⟩
theorem r_valid (h : QR w0 w g s) (hk : s.k ≤ 1000000) (z : Int) : Calls Try.prog 52 #[.pointer (some ⟨g.A, 0, none⟩), .int .i64 z] w fun e w' => e = .returned (.bool (decide (0 ≤ s.M.slot z))) ∧ Below w.heap.size w w' := by
  obtain ⟨_, _, _, h⟩ := h; exact as_valid (h.a (by decide)) hk z
theorem r_dslot (h : QR w0 w g s) (ho : AOk s.Md n) (z : Int) (hz : z ≤ 9223372036854775807) : Calls Try.prog 53 #[.pointer (some ⟨s.Rp, 0, none⟩), .int .i64 z] w fun e w' => e = .returned (.int .i64 (s.Md.slot z)) ∧ w = w' := by
  obtain ⟨_, _, _, h⟩ := h
  obtain ⟨rv, gv, uv, h1, _⟩ := h.d (by decide)
  exact dslot_any h1 ho z hz
theorem p_start (w : World) (n : Nat) {w1 w2 w3 : World} {T A Bb Ba A' : Nat} {q : List Int × List (Int × Int)} {rv gv uv : Value} (hN : ASN w w1 w2 (fun _ => 1) 1 A Bb Ba T 0 n 0 q (AM.new n)) (hD : DA w3 w2.heap.size A' rv gv uv (newM n)) (hb : Below w2.heap.size w2 w3) :
    QR w w3 ⟨A, T, n⟩ ⟨0, q, AM.new n, A', AM.new n, .slice none 0 0, [], .slice none 0 0, [], .slice none 0 0, [], 0, []⟩ :=
  ⟨_, Bb, Ba, fb_call hN.1.bel hb, fun _ => hN.1.below hb 2, fun _ => DC.fresh 2 (show DA w3 w2.heap.size A' rv gv uv (AM.new n) from hD) hN.1.bel.size, fun _ p hp => (by cases hp), fun _ => RowC.nil _ _ _ _ _ _, fun _ => RowC.nil _ _ _ _ _ _, fun _ => RowC.nil _ _ _ _ _ _, fun hn => absurd rfl hn⟩
theorem own_any {b : Nat} {e : TypeId} {size m : Nat} {v : Value} {xs : List Value} (h : w.ownsRow b e size v m xs) : ∃ x cap, v = .slice x m cap := by
  rcases h.2 with ⟨hv, h0⟩ | ⟨g, cap, _, hv, _⟩
  · exact ⟨none, 0, by rw [h0]; exact hv⟩
  · exact ⟨_, cap, hv⟩
end
/-- The marks kept, the last one first. -/
structure AE where
  q : List Int × List (Int × Int)
  M : AM
  x : Int
  p : Nat
def Chn (cap k : Nat) : List Int × List (Int × Int) → List AE → Prop
  | _, [] => True
  | q, e :: r => Hist e.q q ∧ MarkAt 0 cap k e.q e.M e.x ∧ Chn cap k e.q r
theorem Chn.mono {cap k n : Nat} (hn : k ≤ n) : ∀ {q : List Int × List (Int × Int)} {S : List AE}, Chn cap k q S → Chn cap n q S
  | _, [], _ => trivial
  | _, _ :: _, h => ⟨h.1, h.2.1.mono hn, Chn.mono hn h.2.2⟩
theorem Chn.hist {cap k : Nat} {q q' : List Int × List (Int × Int)} {S : List AE} (h : Chn cap k q S) (hh : Hist q q') : Chn cap k q' S := by
  cases S with
  | nil => trivial
  | cons e r => exact ⟨h.1.trans hh, h.2⟩
theorem slot_lt {M : AM} {z : Int} (h : 0 ≤ M.slot z) : M.slot z < M.g.length ∧ z ≤ M.at (M.slot z) := by
  unfold AM.slot at h ⊢
  by_cases hn : z ≤ 0 ∨ M.at (z % 256) ≠ z
  · rw [if_pos hn] at h; omega
  · rw [if_neg hn]
    have h1 : ¬ z ≤ 0 := fun h => hn (.inl h)
    have h2 : M.at (z % 256) = z := Classical.byContradiction fun h => hn (.inr h)
    refine ⟨?_, by omega⟩
    unfold AM.at at h2
    by_cases hc : 0 ≤ z % 256 ∧ z % 256 < M.g.length ∧ M.u.getD (z % 256).toNat false = true
    · exact hc.2.1
    · rw [if_neg hc] at h2; omega
theorem infoPA : (Try.prog.info? 58).map (fun i => (i.zero, i.size, i.bytes)) = some (some (.pointer none), 1, 8) := by kernel_rfl
end Go.Proofs.Ytfkkkndigkchcaa
