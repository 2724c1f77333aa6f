/- An arena's contracts, over one word on its state. No condition. -/
import Derived.Test.YtfkkkndigkchcaaArenaN
namespace Go.Proofs.Ytfkkkndigkchcaa
open Go.RowKit
attribute [local irreducible] Calls

/-- The arena in block A on the trail in block T, with the cells and changes p, plainly M. -/
structure AR (w0 w : World) (A Bb Ba T : Nat) (O : Nat → Prop) (base cap : Nat) (p : List Int × List (Int × Int)) (M : AM) : Prop where
  t : TrS w0 w T O p.1 p.2
  o : ArO O A Bb Ba
  f : ArF w A Bb Ba T base cap
  r : Rep p.1 base cap M
/-- Numbers that are not great. -/
structure Sm (base cap : Nat) (p : List Int × List (Int × Int)) (M : AM) (k : Nat) : Prop where
  c : cap ≤ 256
  b : base ≤ 1000000
  l : p.2.length ≤ 2000 + 4 * k
  g : ∀ s, M.g.getD s 0 ≤ k
theorem Sm.mono {base cap : Nat} {p : List Int × List (Int × Int)} {M : AM} {k n : Nat} (h : Sm base cap p M k) (hn : k ≤ n) : Sm base cap p M n := ⟨h.c, h.b, by have := h.l; omega, fun s => Nat.le_trans (h.g s) hn⟩
/-- Behind a call that wrote it. -/
structure ARN (w0 w w' : World) (A Bb Ba T : Nat) (O : Nat → Prop) (base cap : Nat) (p : List Int × List (Int × Int)) (M : AM) : Prop where
  st : ∃ O', AR w0 w' A Bb Ba T O' base cap p M ∧ ∀ k, O' k → O k ∨ w.heap.size ≤ k
  mv : Moved w w' O
section
variable {w0 w w' : World} {A Bb Ba T base cap k : Nat} {O : Nat → Prop} {p p' : List Int × List (Int × Int)} {M M' : AM}
theorem AR.below (h : AR w0 w A Bb Ba T O base cap p M) (hb : Below w.heap.size w w') : AR w0 w' A Bb Ba T O base cap p M := ⟨h.t.below hb, h.o, h.f.below hb, h.r⟩
theorem AR.next (h : AR w0 w A Bb Ba T O base cap p M) (hn : TrN w0 w w' T O p'.1 p'.2) (hr : Rep p'.1 base cap M') : ARN w0 w w' A Bb Ba T O base cap p' M' := by
  obtain ⟨O', hS, hO⟩ := hn.st
  exact ⟨⟨O', ⟨hS, h.o.next h.f hO, h.f.next hn h.o, hr⟩, hO⟩, hn.mv⟩
theorem ARN.same (h : AR w0 w A Bb Ba T O base cap p M) (hb : Below w.heap.size w w') : ARN w0 w w' A Bb Ba T O base cap p M := ⟨⟨O, h.below hb, fun _ hk => .inl hk⟩, Moved.of_below hb O⟩
theorem ar_at (h : AR w0 w A Bb Ba T O base cap p M) (hs : Sm base cap p M k) (hk : k ≤ 1000000) (z : Int) : Calls Try.prog 55 #[.pointer (some ⟨A, 0, none⟩), .int .i64 z] w fun e w' => e = .returned (.int .i64 (M.at z)) ∧ Below w.heap.size w w' := by
  rw [← h.r.at z]
  exact at_any h.f h.t z hs.c (by have := hs.b; omega) (h.r.genOk fun s => Nat.le_trans (hs.g s) (by omega))
theorem ar_slot (h : AR w0 w A Bb Ba T O base cap p M) (hs : Sm base cap p M k) (hk : k ≤ 1000000) (z : Int) : Calls Try.prog 54 #[.pointer (some ⟨A, 0, none⟩), .int .i64 z] w fun e w' => e = .returned (.int .i64 (M.slot z)) ∧ Below w.heap.size w w' := by
  rw [← h.r.slot z]
  exact slot_any h.f h.t z hs.c (by have := hs.b; omega) (h.r.genOk fun s => Nat.le_trans (hs.g s) (by omega))
theorem ar_valid (h : AR w0 w A Bb Ba T O base cap p M) (hs : Sm base cap p M k) (hk : k ≤ 1000000) (z : Int) : Calls Try.prog 52 #[.pointer (some ⟨A, 0, none⟩), .int .i64 z] w fun e w' => e = .returned (.bool (decide (0 ≤ M.slot z))) ∧ Below w.heap.size w w' := by
  rw [← h.r.slot z]
  exact valid_any h.f h.t z hs.c (by have := hs.b; omega) (h.r.genOk fun s => Nat.le_trans (hs.g s) (by omega))
theorem ar_len (h : AR w0 w A Bb Ba T O base cap p M) : Calls Try.prog 57 #[.pointer (some ⟨A, 0, none⟩)] w fun e w' => e = .returned (.int .i64 ((cap : Int) - M.row.length)) ∧ Below w.heap.size w w' := by
  rw [← h.r.cnt]
  exact alen_any h.f h.t
theorem ar_full (h : AR w0 w A Bb Ba T O base cap p M) (hr : M.row = []) : Calls Try.prog 50 #[.pointer (some ⟨A, 0, none⟩)] w fun e w' => e = .returned (.tuple #[.int .i64 0, .int .i64 6]) ∧ Below w.heap.size w w' :=
  make_full h.f h.t (by rw [h.r.first, hr]; rfl)
theorem make_g (M : AM) (s : Nat) (r : List Nat) (hg : ∀ s, M.g.getD s 0 ≤ k) : ∀ t, (M.make s r).g.getD t 0 ≤ k + 1 := fun t => by
  show (M.g.set s (M.g.getD s 0 + 1)).getD t 0 ≤ k + 1
  by_cases hs : s < M.g.length
  · rw [getD_set_nat _ _ _ _ hs]
    split
    · exact Nat.succ_le_succ (hg s)
    · exact Nat.le_succ_of_le (hg t)
  · rw [List.set_eq_of_length_le (by omega)]; exact Nat.le_succ_of_le (hg t)
theorem Sm.make (h : Sm base cap p M k) (s : Nat) (r : List Nat) : Sm base cap (makeP p base s) (M.make s r) (k + 1) :=
  ⟨h.c, h.b, by have := makeP_len p base s; have := h.l; omega, make_g M s r h.g⟩
theorem Sm.free (h : Sm base cap p M k) (s : Nat) : Sm base cap (freeP p base s) (M.free s) (k + 1) :=
  ⟨h.c, h.b, by have := freeP_len p base s; have := h.l; omega, fun t => Nat.le_succ_of_le (h.g t)⟩
theorem make_at (h : Rep p.1 base cap M) (s : Nat) (r : List Nat) (hr : M.row = s :: r) : (M.make s r).at s = 256 * ((M.g.getD s 0 + 1 : Nat) : Int) + s := by
  have hsm := ((h.mem s).1 (by rw [hr]; simp)).1
  unfold AM.at
  show (if (0 : Int) ≤ (s : Int) ∧ (s : Int) < ((M.g.set s (M.g.getD s 0 + 1)).length : Nat) ∧ (M.u.set s true).getD ((s : Int)).toNat false = true then 256 * (((M.g.set s (M.g.getD s 0 + 1)).getD ((s : Int)).toNat 0 : Nat) : Int) + (s : Int) else 0) = _
  rw [Int.toNat_natCast, getD_set_bool _ _ _ _ (by rw [h.ul]; exact hsm), getD_set_nat _ _ _ _ (by rw [h.gl]; exact hsm), if_pos rfl, if_pos rfl]
  rw [if_pos ⟨by omega, by simp [h.gl]; omega, rfl⟩]
theorem ar_make (h : AR w0 w A Bb Ba T O base cap p M) (hs : Sm base cap p M k) (hk : k ≤ 1000000) (s : Nat) (r : List Nat) (hr : M.row = s :: r) :
    Calls Try.prog 50 #[.pointer (some ⟨A, 0, none⟩)] w fun e w' => e = .returned (.tuple #[.int .i64 (256 * ((M.g.getD s 0 + 1 : Nat) : Int) + s), .int .i64 0]) ∧ ARN w0 w w' A Bb Ba T O base cap (makeP p base s) (M.make s r) := by
  have hrep := h.r.make s r hr p rfl
  have hsm := (h.r.mem s).1 (by rw [hr]; simp)
  have hsm2 := hs.make s r
  have hgo := hrep.genOk fun s => Nat.le_trans (hsm2.g s) (by omega)
  have hl := h.r.len
  obtain ⟨cs, hs_⟩ := p
  dsimp only at hl
  have hg0 : getZ (setC cs base (getZ cs ((base : Int) + 2 + 2 * s + 1))) ((base : Int) + 2 + 2 * s) = 2 * (M.g.getD s 0 : Nat) := by
    rw [get_set _ _ _ (by omega), if_neg (by omega), h.r.gen s hsm.1, hsm.2, b1_false]; omega
  have hg1 : M.g.getD s 0 ≤ k := hs.g s
  have hu0 : getZ (setC (setC cs base (getZ cs ((base : Int) + 2 + 2 * s + 1))) ((base : Int) + 2 + 2 * s) (getZ (setC cs base (getZ cs ((base : Int) + 2 + 2 * s + 1))) ((base : Int) + 2 + 2 * s) + 3)) ((base : Int) + 1) = (cap : Int) - M.row.length := by
    rw [get_set _ _ _ (by simp only [setC_len]; omega), if_neg (by omega), get_set _ _ _ (by omega), if_neg (by omega)]; exact h.r.cnt
  have hrl := h.r.rowlen
  have hc := hs.c
  have hb := hs.b
  have hll := hs.l
  dsimp only at hll
  refine (make_any h.f h.o h.t s (by rw [h.r.first, hr]; rfl) hsm.1 hc (by omega) (by dsimp only; omega) _ _ _ _ _ _ _ _ _ rfl rfl rfl (by rw [hg0]; omega) (by rw [hg0]; omega) rfl rfl (by rw [hu0]; omega) (by rw [hu0]; omega) rfl hgo).mono ?_
  rintro e w' ⟨he, hn⟩
  refine ⟨he.trans ?_, h.next hn hrep⟩
  have h5 := hrep.at (s : Int)
  rw [make_at h.r s r hr] at h5
  exact congrArg (fun z => Ending.returned (.tuple #[.int .i64 z, .int .i64 0])) h5
theorem slot_used (h : Rep p.1 base cap M) {z : Int} (hz : 0 ≤ M.slot z) : ∃ s : Nat, M.slot z = s ∧ s < cap ∧ M.u.getD s false = true ∧ z = 256 * (M.g.getD s 0 : Nat) + s ∧ 0 < z := by
  unfold AM.slot at hz ⊢
  by_cases hn : z ≤ 0 ∨ M.at (z % 256) ≠ z
  · rw [if_pos hn] at hz; omega
  · rw [if_neg hn] at hz ⊢
    have h1 : ¬ z ≤ 0 := fun h => hn (.inl h)
    have h2 : M.at (z % 256) = z := Classical.byContradiction fun h => hn (.inr h)
    unfold AM.at at h2
    by_cases hc : 0 ≤ z % 256 ∧ z % 256 < M.g.length ∧ M.u.getD (z % 256).toNat false = true
    · rw [if_pos hc] at h2
      refine ⟨(z % 256).toNat, by omega, by have := hc.2.1; rw [h.gl] at this; omega, hc.2.2, by omega, by omega⟩
    · rw [if_neg hc] at h2; omega
theorem ar_free_no (h : AR w0 w A Bb Ba T O base cap p M) (hs : Sm base cap p M k) (hk : k ≤ 1000000) (z : Int) (hz : M.slot z < 0) : Calls Try.prog 47 #[.pointer (some ⟨A, 0, none⟩), .int .i64 z] w fun e w' => e = .returned (.int .i64 5) ∧ Below w.heap.size w w' :=
  free_no h.f h.t z hs.c (by have := hs.b; omega) (h.r.genOk fun s => Nat.le_trans (hs.g s) (by omega)) (by rw [h.r.slot]; exact hz)
theorem ar_free (h : AR w0 w A Bb Ba T O base cap p M) (hs : Sm base cap p M k) (hk : k ≤ 1000000) (z : Int) (s : Nat) (hz : M.slot z = s) :
    Calls Try.prog 47 #[.pointer (some ⟨A, 0, none⟩), .int .i64 z] w fun e w' => e = .returned (.int .i64 0) ∧ ARN w0 w w' A Bb Ba T O base cap (freeP p base s) (M.free s) := by
  obtain ⟨s', e, hsc, hu, _⟩ := slot_used h.r (z := z) (by rw [hz]; omega)
  have hss : s' = s := by rw [hz] at e; omega
  subst hss
  have hrep := h.r.free s' hsc hu p rfl
  have hl := h.r.len
  obtain ⟨cs, hs_⟩ := p
  dsimp only at hl
  have hg0 : getZ cs ((base : Int) + 2 + 2 * s') = 2 * (M.g.getD s' 0 : Nat) + 1 := by rw [h.r.gen s' hsc, hu, b1_true]
  have hg1 : M.g.getD s' 0 ≤ k := hs.g s'
  have hgo := h.r.genOk fun s => Nat.le_trans (hs.g s) (by omega)
  have hrl := h.r.rowlen
  have hc := hs.c
  have hb := hs.b
  have hll := hs.l
  dsimp only at hll
  have hu0 : getZ (setC (setC (setC cs ((base : Int) + 2 + 2 * s') (getZ cs ((base : Int) + 2 + 2 * s') - 1)) ((base : Int) + 2 + 2 * s' + 1) (getZ (setC cs ((base : Int) + 2 + 2 * s') (getZ cs ((base : Int) + 2 + 2 * s') - 1)) base)) base ((s' : Int) + 1)) ((base : Int) + 1) = (cap : Int) - M.row.length := by
    rw [get_set _ _ _ (by simp only [setC_len]; omega), if_neg (by omega), get_set _ _ _ (by simp only [setC_len]; omega), if_neg (by omega), get_set _ _ _ (by omega), if_neg (by omega)]; exact h.r.cnt
  refine (free_any h.f h.o h.t z s' (by rw [h.r.slot, hz]) hsc hc (by omega) hgo (by dsimp only; omega) _ _ _ _ _ _ _ _ _ _ _ rfl (by rw [hg0]; omega) (by rw [hg0]; omega) rfl rfl rfl rfl rfl (by rw [hu0]; omega) (by rw [hu0]; omega) rfl).mono ?_
  rintro e w' ⟨he, hn⟩
  exact ⟨he, h.next hn hrep⟩
theorem ar_new {cs : List Int} {hs : List (Int × Int)} (ht : TrS w0 w T O cs hs) (n : Nat) (h1 : 1 ≤ n) (hn : n ≤ 256) (hcs : cs.length ≤ 10000) (hhs : hs.length ≤ 1000) :
    Calls Try.prog 44 #[.pointer (some ⟨T, 0, none⟩), .int .i64 (n : Int)] w fun e w' => ∃ A Bb Ba, e = .returned (.pointer (some ⟨A, 0, none⟩)) ∧ ARN w0 w w' A Bb Ba T O cs.length n (newP cs hs n) (AM.new n) ∧ (w.heap.size ≤ A ∧ w.heap.size ≤ Bb ∧ w.heap.size ≤ Ba) := by
  refine (new_any ht n h1 hn (by omega) (by omega)).mono ?_
  rintro e w' ⟨A, Bb, Ba, he, hN⟩
  obtain ⟨O', a1, a2, a3⟩ := hN.st
  exact ⟨A, Bb, Ba, he, ⟨⟨O', ⟨a1, a2, hN.f, rep_new cs hs n h1⟩, a3⟩, hN.mv⟩, hN.lo⟩
theorem newP_len (cs : List Int) (hs : List (Int × Int)) (n : Nat) (h1 : 1 ≤ n) : (newP cs hs n).2.length ≤ hs.length + n + 1 ∧ (newP cs hs n).1.length = cs.length + (2 * n + 2) := by
  unfold newP
  have h2 := (newL_len (setP (cs ++ List.replicate (2 * n + 2) 0, hs ++ [((-1 : Int), ((2 * n + 2 : Nat) : Int))]) cs.length 1) cs.length (n - 1))
  rw [h2.1]
  refine ⟨Nat.le_trans h2.2 ?_, by unfold setP; simp only [setC_len]; simp⟩
  have := (setH_len (cs ++ List.replicate (2 * n + 2) 0) (hs ++ [((-1 : Int), ((2 * n + 2 : Nat) : Int))]) (cs.length : Int) 1).2
  unfold setP
  simp at this ⊢
  omega
theorem new_sm {cs : List Int} {hs : List (Int × Int)} (n : Nat) (h1 : 1 ≤ n) (hn : n ≤ 256) (hcs : cs.length ≤ 10000) (hhs : hs.length ≤ 1000) : Sm cs.length n (newP cs hs n) (AM.new n) 0 :=
  ⟨hn, by omega, by have := (newP_len cs hs n h1).1; omega, fun s => by unfold AM.new; simp [List.getD_eq_getElem?_getD, List.getElem?_replicate]; split <;> simp⟩
/-- Back to a mark. -/
theorem ar_back (h : AR w0 w A Bb Ba T O base cap p M) (hh : Hist p' p) (hr : Rep p'.1 base cap M') (hl : p.2.length ≤ 1000000000) :
    Calls Try.prog 24 #[.pointer (some ⟨T, 0, none⟩), .int .i64 (p'.2.length : Nat)] w fun e w' => e = .returned (.int .i64 0) ∧ ARN w0 w w' A Bb Ba T O base cap p' M' := by
  refine (tr_back h.t p'.2.length hh.1 (by omega)).mono ?_
  rintro e w' ⟨he, hn⟩
  rw [hh.back.1, hh.back.2] at hn
  exact ⟨he, h.next hn hr⟩
end
end Go.Proofs.Ytfkkkndigkchcaa
