/- The contracts of ArenaNever over what it holds. No condition. -/
import Derived.Test.YtfkkkndigkchcaaArenaNevS
namespace Go.Proofs.Ytfkkkndigkchcaa
open Go.RowKit
attribute [local irreducible] Calls

/-- The arena (colour 1), the row of the dead (2), the row of those that live (3), and a block of one's own (4). lr, dr: what the rows hold by now. -/
def NS (w wr : World) (A T cap k : Nat) (ls : List Nat) (live dead : List Int) (lv : Value) (lr : List Int) (dv : Value) (dr : List Int) (B : Option Nat) (marks : List Bool) : Prop :=
  ∃ col Bb Ba q M, AS w wr col 1 A Bb Ba T 0 cap k q M ∧ NV cap M ls live dead ∧ RowC wr col 2 w.heap.size 3 1 dv dr.length (dr.map (Value.int .i64)) ∧ (LRow wr w.heap.size lv lr ∧ ∀ j, lv.ownBlock = some j → col j = 3) ∧
    ∀ b, B = some b → w.heap.size ≤ b ∧ col b = 4 ∧ Arr wr b 68 (marks.map Value.bool)
theorem AS.ok {w wr : World} {col : Nat → Nat} {A Bb Ba T cap k : Nat} {q : List Int × List (Int × Int)} {M : AM} (h : AS w wr col 1 A Bb Ba T 0 cap k q M) : AM.ok cap M :=
  ⟨h.rep.1, h.rep.2.1, h.rep.2.2.2.1, h.rep.2.2.2.2.1, h.rep.2.2.2.2.2.1⟩
section
variable {w wr w' : World} {A T cap k n i : Nat} {ls : List Nat} {live dead lr dr : List Int} {lv dv : Value} {B : Option Nat} {marks : List Bool} {x : Int}
theorem NS.bel (h : NS w wr A T cap k ls live dead lv lr dv dr B marks) : Below w.heap.size w wr := by obtain ⟨col, Bb, Ba, q, M, h1, _⟩ := h; exact h1.bel
theorem NS.small (h : NS w wr A T cap k ls live dead lv lr dv dr B marks) : live.length ≤ cap ∧ cap ≤ 256 ∧ ls.length = live.length := by
  obtain ⟨col, Bb, Ba, q, M, h1, h2, _⟩ := h
  have := h2.lt
  have := h2.len
  exact ⟨by omega, h1.rep.2.2.2.1, by omega⟩
/-- The own rows, as they are. -/
theorem NS.lrow (h : NS w wr A T cap k ls live dead lv lr dv dr B marks) : LRow wr w.heap.size lv lr := by obtain ⟨col, Bb, Ba, q, M, _, _, _, h4, _⟩ := h; exact h4.1
theorem NS.drow (h : NS w wr A T cap k ls live dead lv lr dv dr B marks) : IRow wr w.heap.size dv dr := by obtain ⟨col, Bb, Ba, q, M, _, _, h3, _⟩ := h; exact h3.1
theorem NS.arr {b : Nat} (h : NS w wr A T cap k ls live dead lv lr dv dr (some b) marks) : Arr wr b 68 (marks.map Value.bool) := by obtain ⟨col, Bb, Ba, q, M, _, _, _, _, h5⟩ := h; exact (h5 b rfl).2.2
theorem NS.below (h : NS w wr A T cap k ls live dead lv lr dv dr B marks) (hb : Below wr.heap.size wr w') : NS w w' A T cap k ls live dead lv lr dv dr B marks := by
  obtain ⟨col, Bb, Ba, q, M, h1, h2, h3, h4, h5⟩ := h
  refine ⟨_, Bb, Ba, q, M, h1.below hb 0, h2, h3.made 0 hb, ⟨h4.1.block fun j hj => hb.block j (h4.1.lt j hj).2, fun j hj => (recol_lt (h4.1.lt j hj).2).trans (h4.2 j hj)⟩, fun b e => ?_⟩
  obtain ⟨z1, z2, z3⟩ := h5 b e
  exact ⟨z1, (recol_lt z3.lt).trans z2, z3.below hb z3.lt⟩
/-- The arena was written. -/
theorem NS.of {ls' : List Nat} {live' dead' : List Int} {col : Nat → Nat} {Bb Ba : Nat} {q : List Int × List (Int × Int)} {M' : AM} (hn : ASN w wr w' col 1 A Bb Ba T 0 cap n q M') (h2 : NV cap M' ls' live' dead')
    (h3 : RowC wr col 2 w.heap.size 3 1 dv dr.length (dr.map (Value.int .i64))) (h4 : LRow wr w.heap.size lv lr ∧ ∀ j, lv.ownBlock = some j → col j = 3)
    (h5 : ∀ b, B = some b → w.heap.size ≤ b ∧ col b = 4 ∧ Arr wr b 68 (marks.map Value.bool)) : NS w w' A T cap n ls' live' dead' lv lr dv dr B marks := by
  refine ⟨_, Bb, Ba, q, M', hn.1, h2, h3.step hn.2 (fun _ h _ => h) (by decide), ⟨h4.1.block fun j hj => hn.2.block j (h4.1.lt j hj).2 (fun e => by have := (h4.2 j hj).symm.trans e; omega), fun j hj => (recol_lt (h4.1.lt j hj).2).trans (h4.2 j hj)⟩, fun b e => ?_⟩
  obtain ⟨z1, z2, z3⟩ := h5 b e
  exact ⟨z1, (recol_lt z3.lt).trans z2, (hn.2.block b z3.lt (fun e => by have := z2.symm.trans e; omega)).trans z3⟩
theorem ns_free (h : NS w wr A T cap k ls live dead lv lr dv dr B marks) (hk : k ≤ 1000) (hi : i < live.length) (hx : live.getD i 0 = x) :
    Calls Try.prog 47 #[.pointer (some ⟨A, 0, none⟩), .int .i64 x] wr fun e w' => e = .returned (.int .i64 0) ∧ NS w w' A T cap (k + 1) (ls.eraseIdx i) (live.take i ++ live.drop (i + 1)) (dead ++ [x]) lv lr dv dr B marks := by
  obtain ⟨col, Bb, Ba, q, M, h1, h2, h3, h4, h5⟩ := h
  have hil : i < ls.length := by rw [← h2.len]; exact hi
  have ha := h2.alive h1.ok hil
  subst hx
  refine (as_free h1 (by omega) _ _ ha.2.2.1).mono ?_
  rintro e w' ⟨rfl, hN⟩
  exact ⟨rfl, NS.of hN (h2.free h1.ok hil) h3 h4 h5⟩
theorem ns_make (h : NS w wr A T cap k ls live dead lv lr dv dr B marks) (hk : k ≤ 1000) (hl : live.length < cap) :
    ∃ ls' x, Calls Try.prog 50 #[.pointer (some ⟨A, 0, none⟩)] wr fun e w' => e = .returned (.tuple #[.int .i64 x, .int .i64 0]) ∧ NS w w' A T cap (k + 1) ls' (live ++ [x]) dead lv lr dv dr B marks := by
  obtain ⟨col, Bb, Ba, q, M, h1, h2, h3, h4, h5⟩ := h
  cases hr : M.row with
  | nil => exact absurd hl (h2.full.1 hr)
  | cons s r =>
    refine ⟨ls ++ [s], 256 * ((M.g.getD s 0 + 1 : Nat) : Int) + s, ?_⟩
    refine (as_make h1 (by omega) s r hr).mono ?_
    rintro e w' ⟨rfl, hN⟩
    exact ⟨rfl, NS.of hN (h2.make h1.ok hr) h3 h4 h5⟩
theorem ns_full (h : NS w wr A T cap k ls live dead lv lr dv dr B marks) (hl : ¬ live.length < cap) :
    Calls Try.prog 50 #[.pointer (some ⟨A, 0, none⟩)] wr fun e w' => e = .returned (.tuple #[.int .i64 0, .int .i64 6]) ∧ NS w w' A T cap k ls live dead lv lr dv dr B marks := by
  have hS := h
  obtain ⟨col, Bb, Ba, q, M, h1, h2, h3, h4, h5⟩ := h
  exact (as_full h1 (h2.full.2 hl)).mono fun e w' ⟨he, hb⟩ => ⟨he, hS.below hb⟩
theorem ns_len (h : NS w wr A T cap k ls live dead lv lr dv dr B marks) :
    Calls Try.prog 57 #[.pointer (some ⟨A, 0, none⟩)] wr fun e w' => e = .returned (.int .i64 (live.length : Nat)) ∧ NS w w' A T cap k ls live dead lv lr dv dr B marks := by
  have hS := h
  obtain ⟨col, Bb, Ba, q, M, h1, h2, h3, h4, h5⟩ := h
  refine (as_len h1).mono fun e w' ⟨he, hb⟩ => ⟨?_, hS.below hb⟩
  rw [he, show (cap : Int) - M.row.length = (live.length : Nat) by have := h2.cnt; have := h2.len; omega]
/-- What is asked of one that lives. -/
theorem ns_slot (h : NS w wr A T cap k ls live dead lv lr dv dr B marks) (hk : k ≤ 1000) (hi : i < live.length) :
    Calls Try.prog 54 #[.pointer (some ⟨A, 0, none⟩), .int .i64 (live.getD i 0)] wr fun e w' => e = .returned (.int .i64 (ls.getD i 0 : Nat)) ∧ Below wr.heap.size wr w' := by
  obtain ⟨col, Bb, Ba, q, M, h1, h2, h3, h4, h5⟩ := h
  have ha := h2.alive h1.ok (i := i) (by rw [← h2.len]; exact hi)
  have := as_slot h1 (by omega) (live.getD i 0)
  rw [ha.2.2.1] at this
  exact this
theorem ns_valid (h : NS w wr A T cap k ls live dead lv lr dv dr B marks) (hk : k ≤ 1000) (hi : i < live.length) :
    Calls Try.prog 52 #[.pointer (some ⟨A, 0, none⟩), .int .i64 (live.getD i 0)] wr fun e w' => e = .returned (.bool true) ∧ Below wr.heap.size wr w' := by
  obtain ⟨col, Bb, Ba, q, M, h1, h2, h3, h4, h5⟩ := h
  have ha := h2.alive h1.ok (i := i) (by rw [← h2.len]; exact hi)
  have := as_valid h1 (by omega) (live.getD i 0)
  rw [ha.2.2.1, decide_eq_true (by omega)] at this
  exact this
theorem ns_at (h : NS w wr A T cap k ls live dead lv lr dv dr B marks) (hk : k ≤ 1000) (hi : i < live.length) :
    Calls Try.prog 55 #[.pointer (some ⟨A, 0, none⟩), .int .i64 (ls.getD i 0 : Nat)] wr fun e w' => e = .returned (.int .i64 (live.getD i 0)) ∧ Below wr.heap.size wr w' := by
  obtain ⟨col, Bb, Ba, q, M, h1, h2, h3, h4, h5⟩ := h
  have ha := h2.alive h1.ok (i := i) (by rw [← h2.len]; exact hi)
  have := as_at h1 (by omega) (ls.getD i 0 : Nat)
  rw [ha.2.2.2] at this
  exact this
theorem NS.facts (h : NS w wr A T cap k ls live dead lv lr dv dr B marks) (hi : i < live.length) : ls.getD i 0 < cap ∧ 0 < live.getD i 0 ∧ ls.Nodup := by
  obtain ⟨col, Bb, Ba, q, M, h1, h2, h3, h4, h5⟩ := h
  have ha := h2.alive h1.ok (i := i) (by rw [← h2.len]; exact hi)
  exact ⟨ha.1, ha.2.1, h2.nd⟩
/-- .. and of a dead one. -/
theorem NS.gone (h : NS w wr A T cap k ls live dead lv lr dv dr B marks) (hk : k ≤ 1000) (hi : i < dead.length) (hx : dead.getD i 0 = x) :
    (Calls Try.prog 52 #[.pointer (some ⟨A, 0, none⟩), .int .i64 x] wr fun e w' => e = .returned (.bool false) ∧ NS w w' A T cap k ls live dead lv lr dv dr B marks) ∧
    (Calls Try.prog 54 #[.pointer (some ⟨A, 0, none⟩), .int .i64 x] wr fun e w' => e = .returned (.int .i64 (-1)) ∧ NS w w' A T cap k ls live dead lv lr dv dr B marks) ∧
    (Calls Try.prog 47 #[.pointer (some ⟨A, 0, none⟩), .int .i64 x] wr fun e w' => e = .returned (.int .i64 5) ∧ NS w w' A T cap k ls live dead lv lr dv dr B marks) := by
  have hS := h
  obtain ⟨col, Bb, Ba, q, M, h1, h2, h3, h4, h5⟩ := h
  have hm : x ∈ dead := by
    rw [← hx, List.getD_eq_getElem?_getD, List.getElem?_eq_getElem hi]; exact List.getElem_mem hi
  have hg := h2.gone h1.ok hm
  have k1 := as_valid h1 (by omega) x
  have k2 := as_slot h1 (by omega) x
  rw [hg] at k1 k2
  rw [decide_eq_false (by omega)] at k1
  exact ⟨k1.mono fun e w' ⟨he, hb⟩ => ⟨he, hS.below hb⟩, k2.mono fun e w' ⟨he, hb⟩ => ⟨he, hS.below hb⟩, (as_free_no h1 (by omega) x (by rw [hg]; omega)).mono fun e w' ⟨he, hb⟩ => ⟨he, hS.below hb⟩⟩
/-- The row of the dead grew. -/
theorem NS.deadApp {dv' : Value} (h : NS w wr A T cap k ls live dead lv lr dv dr none marks) (o : Obj) (hw : w'.ownsRow w.heap.size 3 1 dv' (dr.length + 1) (dr.map (Value.int .i64) ++ [.int .i64 x])) (hg : (wr.alloc o).grownBy w' dv.ownBlock) (hf : ∀ j, dv'.ownBlock = some j → dv.ownBlock = some j ∨ (wr.alloc o).heap.size ≤ j) :
    NS w w' A T cap k ls live dead lv lr dv' (dr ++ [x]) none marks := by
  have hb : Below wr.heap.size wr (wr.alloc o) := fb_alloc (Below.refl _ _) o
  obtain ⟨col, Bb, Ba, q, M, h1, h2, h3, h4, h5⟩ := h.below hb
  have hm := moved_grown hg
  refine ⟨_, Bb, Ba, q, M, h1.moved (a := 2) hm (fun j hj _ => h3.2 j hj) (row_base h3.1) (by decide), h2, ?_, ⟨h4.1.block fun j hj => hm.block j (h4.1.lt j hj).2 (fun e => by have := (h4.2 j hj).symm.trans (h3.2 j e); omega), fun j hj => (recol_lt (h4.1.lt j hj).2).trans (h4.2 j hj)⟩, fun b e => by cases e⟩
  rw [List.length_append, List.length_singleton, List.map_append, List.map_singleton]
  exact h3.grew hw hf
/-- The row of those that live grew. -/
theorem NS.liveApp {lv' : Value} {lr' : List Int} (h : NS w wr A T cap k ls live dead lv lr dv dr none marks) (o : Obj) (hw : IRow w' w.heap.size lv' lr') (hg : (wr.alloc o).grownBy w' lv.ownBlock) (hf : ∀ j, lv'.ownBlock = some j → lv.ownBlock = some j ∨ (wr.alloc o).heap.size ≤ j) :
    NS w w' A T cap k ls live dead lv' lr' dv dr none marks := by
  have hb : Below wr.heap.size wr (wr.alloc o) := fb_alloc (Below.refl _ _) o
  obtain ⟨col, Bb, Ba, q, M, h1, h2, h3, h4, h5⟩ := h.below hb
  have hm := moved_grown hg
  refine ⟨_, Bb, Ba, q, M, h1.moved (a := 3) hm (fun j hj _ => h4.2 j hj) (fun j hj => (h4.1.lt j hj).1) (by decide), h2, h3.step hm (fun j hj _ => h4.2 j hj) (by decide), ⟨.inl hw, fun j hj => ?_⟩, fun b e => by cases e⟩
  exact (hf j hj).elim (fun h1 => (recol_lt (h4.1.lt j h1).2).trans (h4.2 j h1)) (fun h1 => recol_ge h1)
/-- .. or was cut back in its block, or laid anew. -/
theorem NS.cut {lr' : List Int} {lv' : Value} (h : NS w wr A T cap k ls live dead lv lr dv dr none marks) (hw : LRow wr w.heap.size lv' lr') (hv : lv'.ownBlock = lv.ownBlock) : NS w wr A T cap k ls live dead lv' lr' dv dr none marks := by
  obtain ⟨col, Bb, Ba, q, M, h1, h2, h3, h4, h5⟩ := h
  exact ⟨col, Bb, Ba, q, M, h1, h2, h3, ⟨hw, fun j hj => h4.2 j (hv ▸ hj)⟩, h5⟩
theorem NS.anew {lr' : List Int} {lv' : Value} {w1 : World} (h : NS w wr A T cap k ls live dead lv lr dv dr none marks) (hb : Below wr.heap.size wr w1) (hw : IRow w' w1.heap.size lv' lr') (hg : w1.grownBy w' none) : NS w w' A T cap k ls live dead lv' lr' dv dr none marks := by
  have h0 := h.bel.size
  obtain ⟨col, Bb, Ba, q, M, h1, h2, h3, h4, h5⟩ := h.below hb
  have hm : Moved w1 w' (fun j => none = some j) := moved_grown hg
  refine ⟨_, Bb, Ba, q, M, h1.moved (a := 3) hm (fun j hj _ => by cases hj) (fun j hj => by cases hj) (by decide), h2, h3.step hm (fun j hj _ => by cases hj) (by decide), ⟨.inl (ownsRow_base hw (by have := hb.size; omega)), fun j hj => ?_⟩, fun b e => by cases e⟩
  exact recol_ge (World.ownsRow.lt hw j hj).1
/-- The marks: a block of one's own. -/
theorem NS.box (h : NS w wr A T cap k ls live dead lv lr dv dr none marks) (m : List Bool) : NS w (wr.alloc (.cells (m.map Value.bool).toArray 68)) A T cap k ls live dead lv lr dv dr (some wr.heap.size) m := by
  have hb : Below wr.heap.size wr (wr.alloc (.cells (m.map Value.bool).toArray 68)) := fb_alloc (Below.refl _ _) _
  have h0 := h.bel.size
  obtain ⟨col, Bb, Ba, q, M, h1, h2, h3, h4, h5⟩ := h
  refine ⟨recol wr.heap.size col 4, Bb, Ba, q, M, h1.below hb 4, h2, h3.made 4 hb, ⟨h4.1.block fun j hj => hb.block j (h4.1.lt j hj).2, fun j hj => (recol_lt (h4.1.lt j hj).2).trans (h4.2 j hj)⟩, fun b e => ?_⟩
  injection e with e
  subst e
  exact ⟨h0, recol_ge (Nat.le_refl _), Arr.new _ _ _⟩
theorem NS.mark {b : Nat} (h : NS w wr A T cap k ls live dead lv lr dv dr (some b) marks) (j : Nat) : NS w (wr.setCell ⟨b, j, none⟩ (.bool true)) A T cap k ls live dead lv lr dv dr (some b) (marks.set j true) := by
  obtain ⟨col, Bb, Ba, q, M, h1, h2, h3, h4, h5⟩ := h
  obtain ⟨z1, z2, z3⟩ := h5 b rfl
  have hm : Moved wr (wr.setCell ⟨b, j, none⟩ (.bool true)) (fun k => k = b) := Moved.of_set _ _ _ rfl
  refine ⟨_, Bb, Ba, q, M, h1.moved (a := 4) hm (fun _ e _ => by rw [e]; exact z2) (fun _ e => by rw [e]; exact z1) (by decide), h2, h3.step hm (fun _ e _ => by rw [e]; exact z2) (by decide), ⟨h4.1.block fun i hi => hm.block i (h4.1.lt i hi).2 (fun e => by have := (h4.2 i hi).symm.trans (e ▸ z2); omega), fun i hi => (recol_lt (h4.1.lt i hi).2).trans (h4.2 i hi)⟩, fun b' e => ?_⟩
  injection e with e
  subst e
  exact ⟨z1, (recol_lt z3.lt).trans z2, z3.setBool j true⟩
/-- One left the row: it was the last; or it was not. -/
theorem NS.endCut {g cap' j : Nat} {L : List Int} (h : NS w wr A T cap k ls (live.take j ++ live.drop (j + 1)) dead (.slice (some ⟨g, 0, none⟩) live.length cap') live dv dr none marks) (hL : live.take j ++ live.drop (j + 1) = L) (hj : j + 1 = live.length) :
    NS w wr.drew A T cap k ls L dead (.slice (some ⟨g, 0, none⟩) j j) L dv dr none marks ∧ L.length = j := by
  have hd : live.drop (j + 1) = [] := by rw [hj]; exact List.drop_length
  rw [hd, List.append_nil] at hL
  rw [hd, List.append_nil, hL] at h
  have h2 := h.below (bel_drew (Below.refl _ _))
  refine ⟨h2.cut (by rw [← hL]; exact h2.lrow.cut (by omega)) rfl, by rw [← hL, List.length_take]; omega⟩
theorem NS.endRest {g cap' j : Nat} {L : List Int} {v7 : Value} (h : NS w wr A T cap k ls (live.take j ++ live.drop (j + 1)) dead (.slice (some ⟨g, 0, none⟩) live.length cap') live dv dr none marks) (hL : live.take j ++ live.drop (j + 1) = L) (hj : j + 1 < live.length)
    (hw : w'.ownsRow wr.drew.heap.size 3 1 v7 (live.length - 1) ((live.take j ++ live.drop (j + 1)).map (Value.int .i64))) (hg : wr.drew.grownBy w' none) :
    ∃ x c, v7 = .slice x L.length c ∧ NS w w' A T cap k ls L dead (.slice x L.length c) L dv dr none marks := by
  have hl : L.length = live.length - 1 := by rw [← hL, List.length_append, List.length_take, List.length_drop]; omega
  rw [hL, ← hl] at hw
  rw [hL] at h
  obtain ⟨x, c, rfl⟩ := IRow.any hw
  exact ⟨x, c, rfl, h.anew (bel_drew (Below.refl _ _)) hw hg⟩
end
end Go.Proofs.Ytfkkkndigkchcaa
