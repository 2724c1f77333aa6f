/- An index's New: what is so between its rounds. No condition. -/
import Derived.Test.YtcgadmeagbcbnaaDoorIdxPool
namespace Go.Proofs.YtcgadmeagbcbnaaDoor
open Go.RowKit
attribute [local irreducible] Calls

theorem kx_inj {k e k' e' : Int} (h : kx k e = kx k' e') (hn : kx k e ≠ 0) : k = k' ∧ e = e' := by
  unfold kx at h hn
  split at hn
  · rename_i h1
    rw [if_pos h1] at h
    split at h
    · rename_i h2; omega
    · omega
  · exact absurd rfl hn
/-- What the map of sets reads as when n of them are made. -/
def mapN (base n : Nat) (k e : Int) : Option Int := if kx k e ≠ 0 ∧ kx k e ≤ n then some ((base + 256 + 4 * kx k e : Nat) : Int) else none
theorem mapN_zero (base : Nat) : mapN base 0 = fun _ _ => none := by
  funext k e; unfold mapN; rw [if_neg (by omega)]
theorem mapN_all (base : Nat) : mapN base 35 = mapF base := by
  funext k e; unfold mapN mapF
  have := kx_lt k e
  by_cases h : kx k e = 0
  · rw [if_neg (by omega), if_pos h]
  · rw [if_pos ⟨h, by omega⟩, if_neg h]
theorem mapN_put (base n : Nat) (k e : Int) (hk : kx k e = n + 1) : putF (mapN base n) k e ((base + 256 + 4 * (n + 1) : Nat) : Int) = mapN base (n + 1) := by
  funext k' e'
  unfold putF
  by_cases h : k' = k ∧ e' = e
  · rw [if_pos h, h.1, h.2]
    unfold mapN
    rw [if_pos ⟨by omega, by omega⟩, hk]
  · rw [if_neg h]
    unfold mapN
    by_cases h0 : kx k' e' = 0
    · rw [if_neg (by omega), if_neg (by omega)]
    · by_cases h1 : kx k' e' = n + 1
      · exact absurd (kx_inj (h1.trans hk.symm) h0) h
      · by_cases h2 : kx k' e' ≤ n
        · rw [if_pos ⟨h0, h2⟩, if_pos ⟨h0, by omega⟩]
        · rw [if_neg (by omega), if_neg (by omega)]
/-- The rows that lie in blocks of their own. -/
def rowsOf (v : Value) (vs : List Value) (j : Nat) : Prop := v.ownBlock = some j ∨ ∃ i, i < vs.length ∧ (vs.getD i undef).ownBlock = some j
theorem POut.cards {w W : World} {v : Value} {vs : List Value} {L : List (List (Int × Int))} (h : POut w W v vs L) : CardsAt W (rowsOf v vs) v vs L :=
  ⟨h.len, ownL_mono h.row (Nat.zero_le _), fun _ hk => .inl hk, fun i hi => ⟨ownL_mono (h.each i hi) (Nat.zero_le _), fun _ hk => .inr ⟨i, by rw [h.len]; exact hi, hk⟩⟩⟩
theorem rows_kind {W : World} {S : Nat → Prop} {v : Value} {vs : List Value} {L : List (List (Int × Int))} (h : CardsAt W S v vs L) {j : Nat} (hj : rowsOf v vs j) : ∃ t, kindOf W j t ∧ (t = 75 ∨ t = 81) := by
  rcases hj with hj | ⟨i, hi, hj⟩
  · exact ⟨_, own_kind h.2.1 hj, .inl rfl⟩
  · exact ⟨_, own_kind (h.2.2.2 i (by rw [← h.1]; exact hi)).1 hj, .inr rfl⟩
theorem rows_block {W W' : World} {S : Nat → Prop} {v : Value} {vs : List Value} {L : List (List (Int × Int))} (h : CardsAt W S v vs L) (hb : ∀ k, rowsOf v vs k → W'.heap[k]? = W.heap[k]?) : CardsAt W' (rowsOf v vs) v vs L :=
  ⟨h.1, ownsRow_block h.2.1 (fun k hk => hb k (.inl hk)), fun _ hk => .inl hk, fun i hi => ⟨ownsRow_block (h.2.2.2 i hi).1 (fun k hk => hb k (.inr ⟨i, by rw [h.1]; exact hi, hk⟩)), fun _ hk => .inr ⟨i, by rw [h.1]; exact hi, hk⟩⟩⟩
theorem kind_lt {W : World} {j : Nat} {t : TypeId} (h : kindOf W j t) : j < W.heap.size := by obtain ⟨cs, f, h⟩ := h; exact (Array.getElem?_eq_some_iff.1 h).1
theorem rows_lt {W : World} {S : Nat → Prop} {v : Value} {vs : List Value} {L : List (List (Int × Int))} (h : CardsAt W S v vs L) {j : Nat} (hj : rowsOf v vs j) : j < W.heap.size := by
  obtain ⟨t, h1, _⟩ := rows_kind h hj; exact kind_lt h1
/-- What a trail's writing leaves of rows of cards. -/
theorem rows_moved {w0 W W' : World} {T : Nat} {O : Nat → Prop} {cs : List Int} {hs : List (Int × Int)} {S : Nat → Prop} {v : Value} {vs : List Value} {L : List (List (Int × Int))} (ht : TrS w0 W T O cs hs) (h : CardsAt W S v vs L) (hm : Moved W W' O) : CardsAt W' (rowsOf v vs) v vs L :=
  rows_block h fun k hk => hm.block k (rows_lt h hk) fun ho => by
    obtain ⟨t, h1, h2⟩ := ht.kinds ho
    obtain ⟨t', h3, h4⟩ := rows_kind h hk
    rcases h2 with rfl | rfl | rfl <;> rcases h4 with rfl | rfl <;> exact kind_ne h1 h3 (by decide) rfl
theorem POut.set {w W : World} {v u : Value} {vs : List Value} {L : List (List (Int × Int))} (h : POut w W v vs L) {B j : Nat} {t : TypeId} (hk : kindOf W B t) (h1 : t ≠ 75) (h2 : t ≠ 81) (hB : w.heap.size ≤ B) : POut w (W.setCell ⟨B, j, none⟩ u) v vs L :=
  ⟨h.bel.setCell hB _, ownsRow_setCell_other h.row (fun e => kind_ne (own_kind h.row e) hk h1.symm rfl) _, h.len, fun i hi => ownsRow_setCell_other (h.each i hi) (fun e => kind_ne (own_kind (h.each i hi) e) hk h2.symm rfl) _⟩
/-- While the cards are taken over: Wp: the world behind the first cells. -/
structure K1 (Wp W : World) (X M T base : Nat) (cv : Value) (vs : List Value) (L : List (List (Int × Int))) : Prop where
  p : POut Wp W cv vs L
  x : Arr W X 84 [.pointer (some ⟨T, 0, none⟩), cv, .int .i64 (base : Int), .map (some M), .int .i64 ((base + 256 : Nat) : Int)]
  m : MapAt W M 0 (fun _ _ => none)
  xl : Wp.heap.size ≤ X
  ml : Wp.heap.size ≤ M
/-- While the sets are made: n of them. -/
structure K2 (w0 w W : World) (col : Nat → Nat) (c X M T base : Nat) (cv : Value) (vs : List Value) (L : List (List (Int × Int))) (cs : List Int) (hl : Nat) (n : Nat) : Prop where
  t : ∃ O hs, TrS w0 W T O (cs ++ List.replicate (260 + 4 * n) 0) hs ∧ hs.length = hl + 2 + n ∧ ∀ j, O j → recol w.heap.size col c j = c
  x : Arr W X 84 [.pointer (some ⟨T, 0, none⟩), cv, .int .i64 (base : Int), .map (some M), .int .i64 ((base + 256 : Nat) : Int)]
  m : MapAt W M n (mapN base n)
  cdl : CardsAt W (rowsOf cv vs) cv vs L
  mv : Moved w W (fun j => col j = c)
  xl : w.heap.size ≤ X
  ml : w.heap.size ≤ M
  rl : ∀ j, rowsOf cv vs j → w.heap.size ≤ j
  zl : w0.heap.size ≤ w.heap.size
section
variable {w0 w W W' : World} {col : Nat → Nat} {c X M T base hl n : Nat} {cv : Value} {vs : List Value} {L : List (List (Int × Int))} {cs : List Int}
theorem isMap_at {W : World} {M n : Nat} {f : Int → Int → Option Int} (h : MapAt W M n f) : ∃ es ck, W.heap[M]? = some (.map es ck) := by
  obtain ⟨D, ⟨es, ck, h1, _⟩, _⟩ := h; exact ⟨es, ck, h1⟩
theorem K2.below (h : K2 w0 w W col c X M T base cv vs L cs hl n) (hb : Below W.heap.size W W') : K2 w0 w W' col c X M T base cv vs L cs hl n := by
  obtain ⟨⟨O, hs, h1, h2, h3⟩, hx, hm, hc, hmv, a, b, d, e⟩ := h
  exact ⟨⟨O, hs, h1.below hb, h2, h3⟩, hx.below hb hx.lt, hm.block (hb.block M hm.lt), rows_block hc (fun k hk => hb.block k (rows_lt hc hk)), hmv.trans (Moved.of_below hb (fun _ => False)) (fun _ hf => hf.elim), a, b, d, e⟩
/-- One set more is made. -/
theorem K2.alloc (h : K2 w0 w W col c X M T base cv vs L cs hl n) (hb : base = cs.length) (hc : cs.length ≤ 500000) (hn : n ≤ 35) (hhl : hl ≤ 1000000) :
    Calls Tryd.prog 34 #[.pointer (some ⟨T, 0, none⟩), .int .i64 4] W fun e W' => e = .returned (.int .i64 ((base + 256 + 4 * (n + 1) : Nat) : Int)) ∧
      (∀ j, W'.cell? ⟨X, j, none⟩ = W.cell? ⟨X, j, none⟩) ∧ MapAt W' M n (mapN base n) ∧ ∀ W2, W'.grownBy W2 (some M) → MapAt W2 M (n + 1) (mapN base (n + 1)) → K2 w0 w W2 col c X M T base cv vs L cs hl (n + 1) := by
  obtain ⟨⟨O, hs, h1, h2, h3⟩, hx, hm, hcd, hmv, a, b, d, e⟩ := h
  have hlen : (cs ++ List.replicate (260 + 4 * n) (0 : Int)).length = base + 256 + 4 * (n + 1) := by rw [List.length_append, List.length_replicate]; omega
  refine (tr_alloc h1 4 (by unfold canA; omega) (by omega)).mono fun en W' ⟨he, hN⟩ => ⟨by rw [he, hlen], ?_⟩
  obtain ⟨O', h4, h5⟩ := hN.st
  have hXO : ¬ O X := fun ho => by
    obtain ⟨t, g1, g2⟩ := h1.kinds ho
    rcases g2 with rfl | rfl | rfl <;> exact kind_ne g1 hx.kind (by decide) rfl
  have hMO : ∀ {Q : Nat → Prop} {W : World} {cs : List Int} {hs : List (Int × Int)}, TrS w0 W T Q cs hs → MapAt W M n (mapN base n) → ¬ Q M := fun ht hm ho => by
    obtain ⟨t, ⟨cs, f, g1⟩, g2⟩ := ht.kinds ho
    obtain ⟨es, ck, g3⟩ := isMap_at hm
    rw [g1] at g3; cases g3
  have hx' : Arr W' X 84 _ := (hN.mv.block X hx.lt hXO).trans hx
  have hm' : MapAt W' M n (mapN base n) := hm.block (hN.mv.block M hm.lt (hMO h1 hm))
  have hc' := rows_moved h1 hcd hN.mv
  refine ⟨fun j => by rw [hx'.cell, hx.cell], hm', fun W2 hg hm2 => ?_⟩
  have hmg : Moved W' W2 (fun j => j = M) := ⟨hg.os, hg.tape, hg.output, hg.size, fun j hj hne => hg.block j hj (fun e => hne (by injection e))⟩
  have hwW := hmv.size
  refine ⟨⟨O', hs ++ [((-1 : Int), 4)], ?_, by rw [List.length_append, h2]; simp; omega, fun j hj => ?_⟩, (hg.block X hx'.lt (fun e => by
      injection e with e
      obtain ⟨es, ck, g3⟩ := isMap_at hm'
      have g4 : W'.heap[X]? = _ := hx'
      rw [e, g3] at g4; cases g4)).trans hx', hm2, rows_block hc' (fun k hk => hg.block k (rows_lt hc' hk) (fun e => by
      injection e with e
      obtain ⟨es, ck, g3⟩ := isMap_at hm'
      obtain ⟨t, ⟨cs', f', g4⟩, _⟩ := rows_kind hc' hk
      rw [e, g3] at g4; cases g4)), ?_, a, b, d, e⟩
  · have e1 : cs ++ List.replicate (260 + 4 * n) (0 : Int) ++ List.replicate (4 : Int).toNat 0 = cs ++ List.replicate (260 + 4 * (n + 1)) 0 := by
      rw [List.append_assoc, List.replicate_append_replicate]; rfl
    rw [e1] at h4
    exact h4.moved hmg (h4.bel.trans (hmg.below (fun j hj => by subst hj; omega) h4.bel.size)) (fun j hj hjM => hMO h4 hm' (by rw [← hjM]; exact hj))
  · rcases h5 j hj with h6 | h6
    · exact h3 j h6
    · exact recol_ge (by omega)
  · refine (hmv.trans hN.mv fun j hj => ?_).trans hmg fun j hj => .inr (by subst hj; omega)
    by_cases hlt : j < w.heap.size
    · have := h3 j hj; rw [recol_lt hlt] at this; exact .inl this
    · exact .inr (by omega)
end
end Go.Proofs.YtcgadmeagbcbnaaDoor
