/- Two indices on one trail. No condition. -/
import Derived.Test.YtcgadmeagbcbnaaDoorIdxX
namespace Go.Proofs.YtcgadmeagbcbnaaDoor
open Go.RowKit
attribute [local irreducible] Calls

theorem IHolds.app {b : Nat} {cs : List Int} {m : IM} (h : IHolds b cs m) (l : List Int) : IHolds b (cs ++ l) m := by
  obtain ⟨h1, h2, h3, h4⟩ := h
  have e : ∀ n, n < b + 400 → (cs ++ l).getD n 0 = cs.getD n 0 := fun n hn => by
    simp only [List.getD_eq_getElem?_getD]
    rw [List.getElem?_append_left (by omega)]
  exact ⟨by rw [List.length_append]; omega, h2, fun i hi => by rw [e _ (by omega)]; exact h3 i hi, fun s hs => ⟨(h4 s hs).1, fun j hj => by rw [e _ (by omega)]; exact (h4 s hs).2 j hj⟩⟩
theorem no_cards (w : World) : CardsAt w (fun _ => False) (.slice none 0 0) [] [] :=
  ⟨rfl, ⟨rfl, .inl ⟨rfl, rfl⟩⟩, fun k hk => (by cases hk), fun i hi => absurd hi (Nat.not_lt_zero i)⟩
/-- The index b, and on its trail the index f, which alone is written. -/
def Two (w0 w : World) (b f : IB) (k : Nat) (m n : IM) (R : List (Nat × TypeId × List Value)) : Prop :=
  IGood f.abs n ∧ IGood b.abs m ∧ f.T = b.T ∧ ∃ col q, IS w0 w col 1 f k q n ∧ (∀ cs, f.F cs → IHolds b.base cs m) ∧ IxF w b ∧ ISm b ∧ (∀ j, b.has j → col j ≠ 1) ∧ ∀ x ∈ R, col x.1 ≠ 1 ∧ Arr w x.1 x.2.1 x.2.2
section
variable {w0 w w1 w' : World} {k : Nat} {b f : IB} {q : List Int × List (Int × Int)} {m n : IM} {R : List (Nat × TypeId × List Value)}
theorem two_made (h : XB w0 w b k q m R) (hF : ∀ cs, b.F cs → cs.length ≤ 1000) (hk : k ≤ 900000) :
    Calls Tryd.prog 10 #[.pointer (some ⟨b.T, 0, none⟩), .slice none 0 0] w fun e w' => ∃ f : IB, e = .returned (.pointer (some ⟨f.X, 0, none⟩)) ∧ f.abs = [] ∧ Two w0 w' b f (k + 40) m M0 R := by
  obtain ⟨hg, col, ⟨O, p, hc, hh, hl⟩, hR⟩ := h
  have hcs := hF _ hc.h.2
  have hx : ∀ x ∈ R, ¬ O x.1 := fun x hx ho => (hR x hx).1 (hc.oc _ ho)
  classical
  refine (inew_any (c := 1) (col := fun j => if O j then 1 else 0) hc.t (fun j hj => if_pos hj) (by omega) (by omega) (no_cards w) (by decide) (fun i hi => absurd hi (Nat.not_lt_zero i)) (fun i hi => absurd hi (Nat.not_lt_zero i)) (fun cs' => IHolds b.base cs' m) (hc.h.1.app _) (fun cs' i v h1 _ h3 => setC_far h3 (by have := hc.h.1.1; omega))).mono ?_
  rintro e w' ⟨f, q', he, hT, hab, _, hF', hN⟩
  refine ⟨f, he, hab, hab ▸ good_zero _, hg, hT, _, q', hN.1.mono (by omega), fun cs h => by rw [hF'] at h; exact h, hc.f.moved hN.2 (fun j hj h1 => by dsimp only at h1; rw [if_neg (hc.o j hj)] at h1; cases h1), hc.g, fun j hj => ?_, fun x hx' => ?_⟩
  · rw [recol_lt (hc.f.isLt hj), if_neg (hc.o j hj)]; decide
  · have h3 := hR x hx'
    refine ⟨by rw [recol_lt h3.2.lt, if_neg (hx x hx')]; decide, (hN.2.block x.1 h3.2.lt (fun h1 => by dsimp only at h1; rw [if_neg (hx x hx')] at h1; cases h1)).trans h3.2⟩
theorem Two.bel (h : Two w0 w b f k m n R) : Below w0.heap.size w0 w := by obtain ⟨_, _, _, _, _, h, _⟩ := h; exact h.bel
theorem Two.below (h : Two w0 w b f k m n R) (hb : Below w.heap.size w w') : Two w0 w' b f k m n R := by
  obtain ⟨h1, h2, h3, col, q, h4, h5, h6, h7, h8, h9⟩ := h
  exact ⟨h1, h2, h3, _, q, h4.below hb 2, h5, h6.below hb, h7, fun j hj => by rw [recol_lt (h6.isLt hj)]; exact h8 j hj, fun x hx => ⟨by rw [recol_lt (h9 x hx).2.lt]; exact (h9 x hx).1, (h9 x hx).2.below hb (h9 x hx).2.lt⟩⟩
theorem Two.at (h : Two w0 w b f k m n R) {B : Nat} {t : TypeId} {vs : List Value} (hx : (B, t, vs) ∈ R) : Arr w B t vs := by
  obtain ⟨_, _, _, _, _, _, _, _, _, _, h9⟩ := h; exact (h9 _ hx).2
theorem two_put2 (h : Two w0 w b f k m n R) (hk : k ≤ 700000000) (s cd : Int) : Calls Tryd.prog 18 #[.pointer (some ⟨f.X, 0, none⟩), .int .i64 s, .int .i64 cd] w fun e w' => e = .returned (.tuple #[]) ∧ Two w0 w' b f (k + 60) m (putI f.abs s cd n) R := by
  obtain ⟨h1, h2, h3, col, q, h4, h5, h6, h7, h8, h9⟩ := h
  refine (put_any h4 h1 (by omega) s cd).mono fun e w' ⟨he, hN⟩ => ⟨he, good_put h1 s cd, h2, h3, _, q, hN.1, h5, h6.moved hN.2 h8, h7, fun j hj => by rw [recol_lt (h6.isLt hj)]; exact h8 j hj, fun x hx => ?_⟩
  have h10 := h9 x hx
  exact ⟨by rw [recol_lt h10.2.lt]; exact h10.1, (hN.2.block x.1 h10.2.lt h10.1).trans h10.2⟩
/-- The first one, as it stands. -/
theorem Two.fst (h : Two w0 w b f k m n R) : ∃ q, IS w0 w (fun _ => 1) 1 { b with F := fun _ => True } k q m := by
  obtain ⟨h1, h2, h3, col, q, ⟨O, p, hc, hh, hl⟩, h5, h6, h7, h8, h9⟩ := h
  exact ⟨q, O, p, ⟨fun _ _ => rfl, fun _ _ => rfl, h3 ▸ hc.t, fun j hj ho => h8 j hj (hc.oc j ho), ⟨h6.x, h6.m, h6.c, h6.lt⟩, ⟨h5 _ hc.h.2, trivial⟩, ⟨h7.base, h7.len, h7.each, h7.wf, fun _ _ _ _ _ _ => trivial⟩⟩, hh, hl⟩
theorem two_card1 (h : Two w0 w b f k m n R) (s : Int) : Calls Tryd.prog 20 #[.pointer (some ⟨b.X, 0, none⟩), .int .i64 s] w fun e w' => e = .returned (.int .i64 (cardI s m)) ∧ Below w.heap.size w w' := by
  obtain ⟨q, h1⟩ := h.fst
  exact (icard_any h1 h.2.1 s).mono fun e w' ⟨he, n, hn⟩ => ⟨he, hn ▸ fb_drewN (Below.refl _ _) n⟩
theorem two_having1 (h : Two w0 w b f k m n R) (kd e : Int) (hw : wf2 kd e) : Calls Tryd.prog 26 #[.pointer (some ⟨b.X, 0, none⟩), .int .i64 kd, .int .i64 e] w fun e' w' => e' = .returned (svL (havingI kd e m)) ∧ Below w.heap.size w w' := by
  obtain ⟨q, h1⟩ := h.fst
  exact having_any h1 kd e hw
theorem two_card2 (h : Two w0 w b f k m n R) (s : Int) : Calls Tryd.prog 20 #[.pointer (some ⟨f.X, 0, none⟩), .int .i64 s] w fun e w' => e = .returned (.int .i64 (cardI s n)) ∧ Below w.heap.size w w' := by
  have hg := h.1
  obtain ⟨_, _, _, col, q, h4, _⟩ := h
  exact (icard_any h4 hg s).mono fun e w' ⟨he, n, hn⟩ => ⟨he, hn ▸ fb_drewN (Below.refl _ _) n⟩
theorem two_having2 (h : Two w0 w b f k m n R) (kd e : Int) (hw : wf2 kd e) : Calls Tryd.prog 26 #[.pointer (some ⟨f.X, 0, none⟩), .int .i64 kd, .int .i64 e] w fun e' w' => e' = .returned (svL (havingI kd e n)) ∧ Below w.heap.size w w' := by
  obtain ⟨_, _, _, col, q, h4, _⟩ := h
  exact having_any h4 kd e hw
end
end Go.Proofs.YtcgadmeagbcbnaaDoor
