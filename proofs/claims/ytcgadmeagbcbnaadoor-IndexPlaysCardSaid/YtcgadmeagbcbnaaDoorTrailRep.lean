/- How a trail lies in memory: two rows of its own, and what the walk reads of it. No condition. -/
import Derived.Test.YtcgadmeagbcbnaaDoorLat
import Derived.OwnWalk
import Derived.OneCell
namespace Go.Proofs.YtcgadmeagbcbnaaDoor
open Go.RowKit

/-- The changes as cells: a place and a number each. -/
def flat : List (Int × Int) → List Value
  | [] => []
  | p :: r => .int .i64 p.1 :: .int .i64 p.2 :: flat r
theorem flat_len (hs : List (Int × Int)) : (flat hs).length = hs.length * 2 := by
  induction hs with
  | nil => rfl
  | cons p r ih => simp [flat, ih]; omega
theorem flat_append (a b : List (Int × Int)) : flat (a ++ b) = flat a ++ flat b := by
  induction a with
  | nil => rfl
  | cons p r ih => simp [flat, ih]
theorem flat_take (hs : List (Int × Int)) : ∀ k, (flat hs).take (k * 2) = flat (hs.take k) := by
  induction hs with
  | nil => intro k; simp [flat]
  | cons p r ih =>
    intro k
    cases k with
    | zero => simp [flat]
    | succ k => rw [show (k + 1) * 2 = k * 2 + 1 + 1 from by omega]; simp [flat, ih]
theorem flat_get (hs : List (Int × Int)) : ∀ k (h : k < hs.length), (flat hs)[k * 2]? = some (.int .i64 hs[k].1) ∧ (flat hs)[k * 2 + 1]? = some (.int .i64 hs[k].2) := by
  induction hs with
  | nil => intro k h; simp at h
  | cons p r ih =>
    intro k h
    cases k with
    | zero => simp [flat]
    | succ k =>
      have := ih k (by simpa using h)
      rw [show (k + 1) * 2 = k * 2 + 1 + 1 from by omega]
      simpa [flat] using this

/-- A trail: a block of two slices, each its own row among the blocks from base on. -/
structure TrAt (w : World) (base T : Nat) (ao bo : Option Addr) (ca cb : Nat) (cs : List Int) (hs : List (Int × Int)) : Prop where
  hT : base ≤ T
  blk : w.heap[T]? = some (.cells #[.slice ao cs.length ca, .slice bo hs.length cb] 70 (0, 0))
  cells : w.ownsRow base 3 1 (.slice ao cs.length ca) cs.length (cs.map (Value.int .i64))
  chs : w.ownsRow base 97 2 (.slice bo hs.length cb) hs.length (flat hs)

section
variable {w : World} {base T : Nat} {ao bo : Option Addr} {ca cb : Nat} {cs : List Int} {hs : List (Int × Int)}
theorem TrAt.lt (h : TrAt w base T ao bo ca cb cs hs) : T < w.heap.size := (Array.getElem?_eq_some_iff.1 h.blk).1
theorem TrAt.c0 (h : TrAt w base T ao bo ca cb cs hs) : w.cell? ⟨T, 0, none⟩ = some (.slice ao cs.length ca) := by simp [World.cell?, h.blk]
theorem TrAt.c1 (h : TrAt w base T ao bo ca cb cs hs) : w.cell? ⟨T, 1, none⟩ = some (.slice bo hs.length cb) := by simp [World.cell?, h.blk]
theorem TrAt.fr (h : TrAt w base T ao bo ca cb cs hs) (i : Nat) : w.frozen? ⟨T, i, none⟩ = false := by simp [World.frozen?, h.blk]
/-- A cell that there is. -/
theorem TrAt.cell (h : TrAt w base T ao bo ca cb cs hs) {i : Nat} (hi : i < cs.length) : ∃ g, ao = some ⟨g, 0, none⟩ ∧ base ≤ g ∧ g < w.heap.size ∧ g ≠ T ∧ w.cell? ⟨g, i, none⟩ = some (.int .i64 (cs.getD i 0)) ∧ w.frozen? ⟨g, i, none⟩ = false := by
  rcases h.cells.2 with ⟨he, h0⟩ | ⟨g, cap, cur, hv, hg, hh, hn, hm, hsz, htk⟩
  · omega
  · injection hv with h1 h2 h3
    refine ⟨g, h1, hg, (Array.getElem?_eq_some_iff.1 hh).1, fun e => ?_, ?_, by simp [World.frozen?, hh]⟩
    · subst e; have := h.blk; rw [hh] at this; injection this with this; injection this with _ h5 _; exact absurd h5 (by decide)
    · have h4 : cur[i]? = some (.int .i64 (cs.getD i 0)) := by
        have : (cur.toList.take (cs.length * 1))[i]? = (cs.map (Value.int .i64))[i]? := by rw [htk]
        rw [List.getElem?_take, if_pos (by omega)] at this
        simp [hi] at this
        simpa [hi] using this
      simp [World.cell?, hh, h4]
/-- A change that there is. -/
theorem TrAt.ch (h : TrAt w base T ao bo ca cb cs hs) {k : Nat} (hk : k < hs.length) : ∃ g, bo = some ⟨g, 0, none⟩ ∧ base ≤ g ∧ g < w.heap.size ∧ g ≠ T ∧ w.cell? ⟨g, k * 2, none⟩ = some (.int .i64 hs[k].1) ∧ w.cell? ⟨g, k * 2 + 1, none⟩ = some (.int .i64 hs[k].2) := by
  rcases h.chs.2 with ⟨he, h0⟩ | ⟨g, cap, cur, hv, hg, hh, hn, hm, hsz, htk⟩
  · omega
  · injection hv with h1 h2 h3
    obtain ⟨f1, f2⟩ := flat_get hs k hk
    have key : ∀ j, j < hs.length * 2 → cur[j]? = (flat hs)[j]? := fun j hj => by
      have : (cur.toList.take (hs.length * 2))[j]? = (flat hs)[j]? := by rw [htk]
      rw [List.getElem?_take, if_pos hj] at this
      simpa using this
    refine ⟨g, h1, hg, (Array.getElem?_eq_some_iff.1 hh).1, fun e => ?_, ?_, ?_⟩
    · subst e; have := h.blk; rw [hh] at this; injection this with this; injection this with _ h5 _; exact absurd h5 (by decide)
    · simp [World.cell?, hh, key (k * 2) (by omega), f1]
    · simp [World.cell?, hh, key (k * 2 + 1) (by omega), f2]
theorem TrAt.typeT (h : TrAt w base T ao bo ca cb cs hs) {k : Nat} {cur : Array Value} {e : TypeId} {f : Nat × Nat} (hk : w.heap[k]? = some (.cells cur e f)) (he : e ≠ 70) : k ≠ T := by
  intro e2; subst e2; have := h.blk; rw [hk] at this; injection this with this; injection this with _ h5 _; exact he h5
theorem TrAt.neA (h : TrAt w base T ao bo ca cb cs hs) : ao.map Addr.block ≠ some T := by
  rcases h.cells.2 with ⟨he, h0⟩ | ⟨g, cap, cur, hv, hg, hh, hn, hm, hsz, htk⟩
  · injection he with h1 _ _; rw [h1]; simp
  · injection hv with h1 _ _; rw [h1]; intro e; injection e with e; exact h.typeT hh (by decide) e
theorem TrAt.neB (h : TrAt w base T ao bo ca cb cs hs) : bo.map Addr.block ≠ some T := by
  rcases h.chs.2 with ⟨he, h0⟩ | ⟨g, cap, cur, hv, hg, hh, hn, hm, hsz, htk⟩
  · injection he with h1 _ _; rw [h1]; simp
  · injection hv with h1 _ _; rw [h1]; intro e; injection e with e; exact h.typeT hh (by decide) e
theorem TrAt.neAB (h : TrAt w base T ao bo ca cb cs hs) {g : Nat} (ha : ao.map Addr.block = some g) : bo.map Addr.block ≠ some g := by
  rcases h.chs.2 with ⟨he, h0⟩ | ⟨g2, cap2, cur2, hv2, hg2, hh2, hn2, hm2, hsz2, htk2⟩
  · injection he with h1 _ _; rw [h1]; simp
  · rcases h.cells.2 with ⟨he, h0⟩ | ⟨g1, cap, cur, hv, hg, hh, hn, hm, hsz, htk⟩
    · injection he with h1 _ _; rw [h1] at ha; simp at ha
    · injection hv with h1 _ _; injection hv2 with h2 _ _
      rw [h1] at ha; rw [h2]
      injection ha with ha
      intro e; injection e with e
      have e3 : g2 = g1 := e.trans ha.symm
      rw [e3, hh] at hh2; injection hh2 with hh2; injection hh2 with _ h5 _; exact absurd h5 (by decide)
theorem own_block (ao : Option Addr) (n c : Nat) : (Value.slice ao n c).ownBlock = ao.map Addr.block := by cases ao <;> rfl
/-- It stays where nothing of its own is written. -/
theorem TrAt.kept (h : TrAt w base T ao bo ca cb cs hs) {w' : World} (hg : w.grownBy w' none) : TrAt w' base T ao bo ca cb cs hs :=
  ⟨h.hT, (hg.block T h.lt (by simp)).trans h.blk, h.cells.kept hg (by cases (Value.slice ao cs.length ca).ownBlock <;> simp), h.chs.kept hg (by cases (Value.slice bo hs.length cb).ownBlock <;> simp)⟩
theorem TrAt.below (h : TrAt w base T ao bo ca cb cs hs) {w' : World} (hb : Below w.heap.size w w') : TrAt w' base T ao bo ca cb cs hs :=
  h.kept ⟨hb.os, hb.tape, hb.output, hb.size, fun i hi _ => hb.block i hi⟩
end
end Go.Proofs.YtcgadmeagbcbnaaDoor
