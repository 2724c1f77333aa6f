/- What TrailPlays holds: a trail, and the document's own, by colours; the document's Now, Mark, Get. No condition. -/
import Derived.Test.YtfkkkndigkchcaaTrailBk
namespace Go.Proofs.Ytfkkkndigkchcaa
open Go.RowKit

/-- What has the colour 6 stays. -/
def Keep6 (w : World) (col : Nat → Nat) (w' : World) (col' : Nat → Nat) : Prop := ∀ k, k < w.heap.size → col k = 6 → w'.heap[k]? = w.heap[k]? ∧ col' k = 6
theorem Keep6.refl (w : World) (col : Nat → Nat) : Keep6 w col w col := fun _ _ h => ⟨rfl, h⟩
theorem Keep6.trans {a b c : World} {f g h : Nat → Nat} (h1 : Keep6 a f b g) (hs : a.heap.size ≤ b.heap.size) (h2 : Keep6 b g c h) : Keep6 a f c h := fun k hk e => by
  obtain ⟨x1, x2⟩ := h1 k hk e
  obtain ⟨y1, y2⟩ := h2 k (by omega) x2
  exact ⟨y1.trans x1, y2⟩
theorem Keep6.moved {w w' : World} {col : Nat → Nat} {a : Nat} {S : Nat → Prop} (hm : Moved w w' S) (hS : ∀ k, S k → k < w.heap.size → col k = a) (ha : a ≠ 6) : Keep6 w col w' (recol w.heap.size col a) := fun k hk e =>
  ⟨hm.block k hk (fun hs => ha ((hS k hs hk).symm.trans e)), (recol_lt hk).trans e⟩
theorem Keep6.made {w w' : World} (col : Nat → Nat) (a : Nat) (hm : Below w.heap.size w w') : Keep6 w col w' (recol w.heap.size col a) := fun k hk e => ⟨hm.block k hk, (recol_lt hk).trans e⟩
/-- A block of the colour 6. -/
def Box6 (w : World) (col : Nat → Nat) (X : Nat) (t : TypeId) (vs : List Value) : Prop := Arr w X t vs ∧ col X = 6
theorem Box6.keep {w w' : World} {col col' : Nat → Nat} {X : Nat} {t : TypeId} {vs : List Value} (h : Box6 w col X t vs) (hk : Keep6 w col w' col') : Box6 w' col' X t vs :=
  ⟨(hk X h.1.lt h.2).1.trans h.1, (hk X h.1.lt h.2).2⟩

/-- What TrailPlays holds; but for what has the colour x. -/
structure PL (x : Nat) (w0 w : World) (col : Nat → Nat) (T R B cap : Nat) (ts : List Int × List (Int × Int)) (vals : List Value) (L : Nat → List Int) : Prop where
  bel : Below w0.heap.size w0 w
  t : x ≠ 1 → TrC w0 w col 1 T ts.1 ts.2
  r : x ≠ 2 → Arr w R 95 [.slice (some ⟨B, 0, none⟩) vals.length cap] ∧ col R = 2 ∧ w0.heap.size ≤ R
  s : x ≠ 3 → RowC w col 3 w0.heap.size 34 1 (.slice (some ⟨B, 0, none⟩) vals.length cap) vals.length vals
  e : x ≠ 5 → ∀ j v, vals[j]? = some v → RowC w col 5 w0.heap.size 3 1 v (L j).length ((L j).map (Value.int .i64)) ∧ ∃ g c, v = .slice (some ⟨g, 0, none⟩) (L j).length c
section
variable {w0 w w' : World} {col : Nat → Nat} {T R B cap B' cap' : Nat} {ts ts' : List Int × List (Int × Int)} {vals vals' : List Value} {L : Nat → List Int} {S : Nat → Prop}
theorem PL.moved {a : Nat} (h : PL 0 w0 w col T R B cap ts vals L) (hm : Moved w w' S) (hS : ∀ k, S k → k < w.heap.size → col k = a) (hb : ∀ k, S k → w0.heap.size ≤ k) : PL a w0 w' (recol w.heap.size col a) T R B cap ts vals L := by
  have hbel : Below w0.heap.size w0 w' := h.bel.trans (hm.below hb h.bel.size)
  have z1 := h.r (by decide)
  refine ⟨hbel, fun hx => (h.t (by decide)).step hm hbel hS (Ne.symm hx), fun hx => ⟨?_, (recol_lt z1.1.lt).trans z1.2.1, z1.2.2⟩, fun hx => (h.s (by decide)).step hm hS (Ne.symm hx), fun hx j v hj => ⟨(h.e (by decide) j v hj).1.step hm hS (Ne.symm hx), (h.e (by decide) j v hj).2⟩⟩
  exact (hm.block R z1.1.lt (fun hs => hx ((hS R hs z1.1.lt).symm.trans z1.2.1))).trans z1.1
theorem PL.made (a : Nat) (h : PL 0 w0 w col T R B cap ts vals L) (hm : Below w.heap.size w w') : PL 0 w0 w' (recol w.heap.size col a) T R B cap ts vals L := by
  have z1 := h.r (by decide)
  exact ⟨fb_call h.bel hm, fun _ => (h.t (by decide)).made a hm, fun _ => ⟨(hm.block R z1.1.lt).trans z1.1, (recol_lt z1.1.lt).trans z1.2.1, z1.2.2⟩, fun _ => (h.s (by decide)).made a hm, fun _ j v hj => ⟨(h.e (by decide) j v hj).1.made a hm, (h.e (by decide) j v hj).2⟩⟩
theorem PL.onT (h : PL 0 w0 w col T R B cap ts vals L) {O : Nat → Prop} (hO : ∀ k, O k → col k = 1) (hS : TrS w0 w T O ts.1 ts.2) (hn : TrN w0 w w' T O ts'.1 ts'.2) : PL 0 w0 w' (recol w.heap.size col 1) T R B cap ts' vals L := by
  have k := h.moved (a := 1) hn.mv (fun k hk _ => hO k hk) (fun k hk => (hS.base hk).1)
  exact ⟨k.bel, fun _ => TrC.own hO hS hn, fun _ => k.r (by decide), fun _ => k.s (by decide), fun _ => k.e (by decide)⟩
/-- What is read of the document's. -/
theorem PL.c0 (h : PL 0 w0 w col T R B cap ts vals L) : w.cell? ⟨R, 0, none⟩ = some (.slice (some ⟨B, 0, none⟩) vals.length cap) := by
  rw [(h.r (by decide)).1.cell]; rfl
theorem PL.f0 (h : PL 0 w0 w col T R B cap ts vals L) (j : Nat) : w.frozen? ⟨R, j, none⟩ = false := (h.r (by decide)).1.frozen j
theorem PL.cj (h : PL 0 w0 w col T R B cap ts vals L) {j : Nat} {x : Value} (hx : vals[j]? = some x) : w.cell? ⟨B, j, none⟩ = some x := by
  have h1 := (h.s (by decide)).1
  have := World.ownsRow.cells (g := B) h1 rfl j x hx
  by_cases h0 : j = 0
  · subst h0; exact this
  · simpa [Addr.add, h0] using this
theorem PL.ex (h : PL 0 w0 w col T R B cap ts vals L) {j : Nat} (hj : j < vals.length) : ∃ g c, vals[j]? = some (.slice (some ⟨g, 0, none⟩) (L j).length c) ∧ RowC w col 5 w0.heap.size 3 1 (.slice (some ⟨g, 0, none⟩) (L j).length c) (L j).length ((L j).map (Value.int .i64)) := by
  have hv : vals[j]? = some vals[j] := List.getElem?_eq_getElem hj
  obtain ⟨hr, g, c, e⟩ := h.e (by decide) j _ hv
  rw [e] at hv hr
  exact ⟨g, c, hv, hr⟩
end
section
variable {w0 w : World} {col : Nat → Nat} {T R B cap n : Nat} {ts : List Int × List (Int × Int)} {vals : List Value} {L : Nat → List Int}
/-- The document's Now. -/
theorem rnow_any (h : PL 0 w0 w col T R B cap ts vals L) (hn : vals.length = n + 1) (h63 : n ≤ 1000000) : Calls Try.prog 29 #[.pointer (some ⟨R, 0, none⟩)] w fun e w' => ∃ g c, e = .returned (.slice (some ⟨g, 0, none⟩) (L n).length c) ∧ vals[n]? = some (.slice (some ⟨g, 0, none⟩) (L n).length c) ∧ RowC w col 5 w0.heap.size 3 1 (.slice (some ⟨g, 0, none⟩) (L n).length c) (L n).length ((L n).map (Value.int .i64)) ∧ ∃ nq, w' = w.drewN nq := by
  obtain ⟨a, c, hv, hr⟩ := h.ex (j := n) (by omega)
  have c0 := h.c0
  have c1 := h.cj hv
  rw [hn] at c0
  have H := Lib.hid (And.intro hv hr)
  obtain ⟨ln, hln⟩ : ∃ ln, (L n).length = ln := ⟨_, rfl⟩
  rw [hln] at c1
  have HL := Lib.hid hln
  have n0 : (0 : Int) ≤ n := by omega
  have n1 : (n : Int) < (n : Int) + 1 := by omega
  clear hv hr h hn hln
  have e1 : (((n + 1 : Nat) : Int) - 1) = (n : Int) := by omega
  have e2 : ((n + 1 : Nat) : Int) = (n : Int) + 1 := by omega
  go_enter Try.func29, Try.ntmps29
  go_wp2
  go_quiet (fail)
  go_wp2
  go_ret
  refine ⟨a, c, ?_, H.out.1, H.out.2, _, rfl⟩
  rw [HL.out]; rfl
/-- The document's Mark. -/
theorem rmark_any (h : PL 0 w0 w col T R B cap ts vals L) (hn : vals.length = n + 1) (h63 : n ≤ 1000000) : Calls Try.prog 27 #[.pointer (some ⟨R, 0, none⟩)] w fun e w' => e = .returned (.int .i64 n) ∧ w = w' := by
  have c0 := h.c0
  rw [hn] at c0
  have e1 : (((n + 1 : Nat) : Int) - 1) = (n : Int) := by omega
  clear h hn
  go_enter Try.func27, Try.ntmps27
  go_wp2
  go_ret
  refine ⟨?_, rfl⟩
  first | rfl | (congr 2; omega) | go_num
/-- The document's Get. -/
theorem rget_any (h : PL 0 w0 w col T R B cap ts vals L) (hn : vals.length = n + 1) (h63 : n ≤ 1000000) (i : Int) : Calls Try.prog 31 #[.pointer (some ⟨R, 0, none⟩), .int .i64 i] w fun e w' => e = .returned (.int .i64 (getZ (L n) i)) ∧ ∃ nq, w' = w.drewN nq := by
  have H := Lib.hid (rnow_any h hn h63)
  clear h hn
  by_cases hi : 0 ≤ i ∧ i < (L n).length
  · obtain ⟨j, rfl⟩ := Int.eq_ofNat_of_zero_le hi.1
    have hj : j < (L n).length := by omega
    have hg : getZ (L n) (j : Int) = (L n).getD j 0 := getZ_in hj
    obtain ⟨x, hx⟩ : ∃ x, (L n).getD j 0 = x := ⟨_, rfl⟩
    rw [hg, hx]
    obtain ⟨ln, hln⟩ : ∃ ln, (L n).length = ln := ⟨_, rfl⟩
    rw [hln] at hj
    have HX := Lib.hid (And.intro hx hln)
    have j0 : (0 : Int) ≤ j := by omega
    have j1 : (j : Int) < ln := by omega
    clear hx hln hg hi
    go_enter Try.func31, Try.ntmps31
    go_wp2_with fail
    refine H.out.mono ?_
    rintro e w' ⟨a, c, rfl, _, hr, nq, rfl⟩
    rw [HX.out.2] at hr ⊢
    have hr1 : IRow w w0.heap.size (.slice (some ⟨a, 0, none⟩) ln c) (L n) := by rw [← HX.out.2] at hr ⊢; exact hr.1
    have c1 : (w.drewN nq).cell? ⟨a, j, none⟩ = some (.int .i64 x) := by
      have := (hr1.below (bel_drewN (Below.refl _ _) nq)).cell (j := j) (by rw [HX.out.2]; exact hj)
      rw [HX.out.1] at this; exact this
    clear hr hr1
    go_wp2
    go_ret
    exact ⟨rfl, nq, rfl⟩
  · rw [getZ_out hi]
    obtain ⟨ln, hln⟩ : ∃ ln, (L n).length = ln := ⟨_, rfl⟩
    rw [hln] at hi
    have HX := Lib.hid hln
    clear hln
    by_cases h0 : i < 0
    · clear hi
      go_enter Try.func31, Try.ntmps31
      go_wp2_with fail
      refine H.out.mono ?_
      rintro e w' ⟨a, c, rfl, _, hr, nq, rfl⟩
      rw [HX.out]
      clear hr
      go_wp2
      go_ret
      exact ⟨rfl, nq, rfl⟩
    · have h1 : (ln : Int) ≤ i := by omega
      clear hi
      go_enter Try.func31, Try.ntmps31
      go_wp2_with fail
      refine H.out.mono ?_
      rintro e w' ⟨a, c, rfl, _, hr, nq, rfl⟩
      rw [HX.out]
      clear hr
      go_wp2
      go_ret
      exact ⟨rfl, nq, rfl⟩
theorem row_take {w : World} {base : Nat} {e : TypeId} {B n m cap : Nat} {xs : List Value} (h : w.ownsRow base e 1 (.slice (some ⟨B, 0, none⟩) n cap) n xs) (hm : m ≤ n) : w.ownsRow base e 1 (.slice (some ⟨B, 0, none⟩) m cap) m (xs.take m) := by
  have hl := h.1
  rcases h.2 with ⟨hv, _⟩ | ⟨g, c, cur, hv, hb, hg, hn, hmx, hs, ht⟩
  · cases hv
  · injection hv with e1 _ e3
    injection e1 with e1
    injection e1 with e1
    subst e1 e3
    refine ⟨by simp at hl ⊢; omega, .inr ⟨B, cap, cur, rfl, hb, hg, by omega, hmx, hs, ?_⟩⟩
    rw [← ht, List.take_take]
    congr 1; omega
theorem PL.room (h : PL 0 w0 w col T R B cap ts vals L) : vals.length ≤ cap := by
  rcases ((h.s (by decide)).1).2 with ⟨hv, _⟩ | ⟨g, c, cur, hv, hb, hg, hn, hmx, hs, ht⟩
  · cases hv
  · injection hv with _ _ e3
    omega
theorem PL.cut (h : PL 0 w0 w col T R B cap ts vals L) {m : Nat} (hm : m ≤ vals.length) :
    PL 0 w0 (w.setCell ⟨R, 0, none⟩ (.slice (some ⟨B, 0, none⟩) m cap)) (recol w.heap.size col 2) T R B cap ts (vals.take m) L ∧ Keep6 w col (w.setCell ⟨R, 0, none⟩ (.slice (some ⟨B, 0, none⟩) m cap)) (recol w.heap.size col 2) := by
  have hr := h.r (by decide)
  have mv := Moved.of_set w ⟨R, 0, none⟩ (.slice (some ⟨B, 0, none⟩) m cap) (S := fun k => k = R) rfl
  have hS : ∀ k, k = R → k < w.heap.size → col k = 2 := fun k hk _ => by rw [hk]; exact hr.2.1
  have k := h.moved (a := 2) mv hS (fun k hk => by rw [hk]; exact hr.2.2)
  have hl : (vals.take m).length = m := by simp; omega
  refine ⟨⟨k.bel, fun _ => k.t (by decide), fun _ => ⟨?_, (recol_lt hr.1.lt).trans hr.2.1, hr.2.2⟩, fun _ => ?_, fun _ j v hj => ?_⟩, Keep6.moved mv hS (by decide)⟩
  · rw [hl]; exact hr.1.set 0 _
  · have k3 := k.s (by decide)
    rw [hl]
    exact ⟨row_take k3.1 hm, k3.2⟩
  · refine k.e (by decide) j v ?_
    rw [List.getElem?_take] at hj
    split at hj
    · exact hj
    · cases hj
/-- The document's Back. -/
theorem rback_any (h : PL 0 w0 w col T R B cap ts vals L) (hn : vals.length = n + 1) (h63 : n ≤ 1000000) (m : Nat) (hm : m ≤ n) : Calls Try.prog 25 #[.pointer (some ⟨R, 0, none⟩), .int .i64 m] w fun e w' => e = .returned (.int .i64 0) ∧ ∃ col', PL 0 w0 w' col' T R B cap ts (vals.take (m + 1)) L ∧ Keep6 w col w' col' := by
  have H := Lib.hid (And.intro h (And.intro hn (rmark_any h hn h63)))
  have c0 := h.c0
  have f0 := h.f0 0
  have hcap := h.room
  rw [hn] at c0
  have m0 : (0 : Int) ≤ m := by omega
  have m1 : (m : Int) ≤ n := by omega
  have m2 : (m : Int) + 1 ≤ cap := by omega
  have m3 : ¬ (m : Int) < 0 := by omega
  clear h hn hcap
  go_enter Try.func25, Try.ntmps25
  go_wp2_with fail
  refine H.out.2.2.mono ?_
  rintro e w' ⟨rfl, rfl⟩
  go_wp2
  go_ret
  exact ⟨rfl, _, H.out.1.cut (m := m + 1) (by have := H.out.2.1; omega)⟩
theorem rback_no (h : PL 0 w0 w col T R B cap ts vals L) (hn : vals.length = n + 1) (h63 : n ≤ 1000000) (m : Int) (hm : ¬ (0 ≤ m ∧ m ≤ n)) : Calls Try.prog 25 #[.pointer (some ⟨R, 0, none⟩), .int .i64 m] w fun e w' => e = .returned (.int .i64 2) ∧ w = w' := by
  have H := Lib.hid (rmark_any h hn h63)
  clear h hn
  by_cases h0 : m < 0
  · clear hm
    go_enter Try.func25, Try.ntmps25
    go_wp2
    go_ret
    exact ⟨rfl, rfl⟩
  · have h1 : (n : Int) < m := by omega
    clear hm
    go_enter Try.func25, Try.ntmps25
    go_wp2_with fail
    refine H.out.mono ?_
    rintro e w' ⟨rfl, rfl⟩
    go_wp2
    go_ret
    exact ⟨rfl, rfl⟩
end
end Go.Proofs.Ytfkkkndigkchcaa
