/- Two arenas on one trail. No condition. -/
import Derived.Test.YtfkkkndigkchcaaArenaW
namespace Go.Proofs.Ytfkkkndigkchcaa
open Go.RowKit
attribute [local irreducible] Calls

theorem Rep.frame {cs cs' : List Int} {base cap : Nat} {M : AM} (h : Rep cs base cap M) (hl : cs.length ≤ cs'.length) (he : ∀ j : Int, (base : Int) ≤ j → j < base + (2 * cap + 2) → getZ cs' j = getZ cs j) : Rep cs' base cap M :=
  ⟨Nat.le_trans h.len hl, h.gl, h.ul, fun s hs => by rw [he _ (by omega) (by omega)]; exact h.gen s hs, by rw [he _ (by omega) (by omega)]; exact h.first,
   fun a s r hr => by
    have hm := ((h.mem s).1 (by rw [hr]; simp)).1
    rw [he _ (by omega) (by omega)]; exact h.next a s r hr, by rw [he _ (by omega) (by omega)]; exact h.cnt, h.nd, h.mem⟩
theorem makeP_far (p : List Int × List (Int × Int)) {base cap s : Nat} (hl : base + (2 * cap + 2) ≤ p.1.length) (hs : s < cap) (j : Int) (hj : j < base ∨ (base : Int) + (2 * cap + 2) ≤ j) : getZ (makeP p base s).1 j = getZ p.1 j := by
  unfold makeP setP
  dsimp only
  rw [get_set _ _ _ (by simp only [setC_len]; omega), if_neg (by omega), get_set _ _ _ (by simp only [setC_len]; omega), if_neg (by omega), get_set _ _ _ (by omega), if_neg (by omega)]
theorem freeP_far (p : List Int × List (Int × Int)) {base cap s : Nat} (hl : base + (2 * cap + 2) ≤ p.1.length) (hs : s < cap) (j : Int) (hj : j < base ∨ (base : Int) + (2 * cap + 2) ≤ j) : getZ (freeP p base s).1 j = getZ p.1 j := by
  unfold freeP setP
  dsimp only
  rw [get_set _ _ _ (by simp only [setC_len]; omega), if_neg (by omega), get_set _ _ _ (by simp only [setC_len]; omega), if_neg (by omega), get_set _ _ _ (by simp only [setC_len]; omega), if_neg (by omega), get_set _ _ _ (by omega), if_neg (by omega)]
theorem makeP_len1 (p : List Int × List (Int × Int)) (base s : Nat) : (makeP p base s).1.length = p.1.length := by
  unfold makeP setP; dsimp only; simp only [setC_len]
theorem freeP_len1 (p : List Int × List (Int × Int)) (base s : Nat) : (freeP p base s).1.length = p.1.length := by
  unfold freeP setP; dsimp only; simp only [setC_len]
theorem get_app (cs l : List Int) (j : Int) (hj : j < cs.length) : getZ (cs ++ l) j = getZ cs j := by
  unfold getZ
  by_cases h : 0 ≤ j
  · rw [if_pos ⟨h, by rw [List.length_append]; omega⟩, if_pos ⟨h, hj⟩, List.getD_eq_getElem?_getD, List.getElem?_append_left (by omega), ← List.getD_eq_getElem?_getD]
  · rw [if_neg (fun h' => h h'.1), if_neg (fun h' => h h'.1)]
theorem newP_far (cs : List Int) (hs : List (Int × Int)) (cap : Nat) (h1 : 1 ≤ cap) (j : Int) (hj : j < cs.length) : getZ (newP cs hs cap).1 j = getZ cs j := by
  unfold newP
  rw [newL_get _ cs.length cap (by unfold setP; simp only [setC_len]; simp) (cap - 1) (by omega) j, if_neg (by omega)]
  unfold setP
  rw [get_set _ _ _ (by simp; omega), if_neg (by omega), get_app _ _ _ hj]
section
variable {w0 w w' : World} {A B C A2 B2 C2 T base cap base2 cap2 k n : Nat} {O : Nat → Prop} {p p' q : List Int × List (Int × Int)} {M M' M2 M2' : AM}
theorem two_next (h2 : AR w0 w A2 B2 C2 T O base2 cap2 p M2) (hn : ARN w0 w w' A B C T O base cap p' M') (hr : Rep p'.1 base2 cap2 M2') : ∃ O', AR w0 w' A B C T O' base cap p' M' ∧ AR w0 w' A2 B2 C2 T O' base2 cap2 p' M2' := by
  obtain ⟨O', a, hO⟩ := hn.st
  exact ⟨O', a, ⟨a.t, h2.o.next h2.f hO, h2.f.moved hn.mv h2.o.1 h2.o.2.1 h2.o.2.2, hr⟩⟩
theorem Sm.other (h : Sm base2 cap2 p M2 k) (h' : Sm base cap p' M' n) (hkn : k ≤ n) : Sm base2 cap2 p' M2 n := ⟨h.c, h.b, h'.l, fun s => Nat.le_trans (h.g s) hkn⟩
/-- Two arenas on the trail in T. -/
def TW (w0 w : World) (T A B C A2 B2 C2 k : Nat) (q : List Int × List (Int × Int)) (M M2 : AM) : Prop :=
  ∃ O p, AR w0 w A B C T O 0 256 p M ∧ AR w0 w A2 B2 C2 T O 514 1 p M2 ∧ Sm 0 256 p M k ∧ Sm 514 1 p M2 k ∧ Hist q p
theorem TW.bel (h : TW w0 w T A B C A2 B2 C2 k q M M2) : Below w0.heap.size w0 w := by obtain ⟨O, p, h, _⟩ := h; exact h.t.bel
theorem TW.below (h : TW w0 w T A B C A2 B2 C2 k q M M2) (hb : Below w.heap.size w w') : TW w0 w' T A B C A2 B2 C2 k q M M2 := by
  obtain ⟨O, p, h1, h2, h3⟩ := h; exact ⟨O, p, h1.below hb, h2.below hb, h3⟩
theorem tw1_at (h : TW w0 w T A B C A2 B2 C2 k q M M2) (hk : k ≤ 1000000) (z : Int) : Calls Try.prog 55 #[.pointer (some ⟨A, 0, none⟩), .int .i64 z] w fun e w' => e = .returned (.int .i64 (M.at z)) ∧ Below w.heap.size w w' := by
  obtain ⟨O, p, h1, h2, h3, h4, h5⟩ := h; exact ar_at h1 h3 hk z
theorem tw1_slot (h : TW w0 w T A B C A2 B2 C2 k q M M2) (hk : k ≤ 1000000) (z : Int) : Calls Try.prog 54 #[.pointer (some ⟨A, 0, none⟩), .int .i64 z] w fun e w' => e = .returned (.int .i64 (M.slot z)) ∧ Below w.heap.size w w' := by
  obtain ⟨O, p, h1, h2, h3, h4, h5⟩ := h; exact ar_slot h1 h3 hk z
theorem tw1_valid (h : TW w0 w T A B C A2 B2 C2 k q M M2) (hk : k ≤ 1000000) (z : Int) : Calls Try.prog 52 #[.pointer (some ⟨A, 0, none⟩), .int .i64 z] w fun e w' => e = .returned (.bool (decide (0 ≤ M.slot z))) ∧ Below w.heap.size w w' := by
  obtain ⟨O, p, h1, h2, h3, h4, h5⟩ := h; exact ar_valid h1 h3 hk z
theorem tw2_valid (h : TW w0 w T A B C A2 B2 C2 k q M M2) (hk : k ≤ 1000000) (z : Int) : Calls Try.prog 52 #[.pointer (some ⟨A2, 0, none⟩), .int .i64 z] w fun e w' => e = .returned (.bool (decide (0 ≤ M2.slot z))) ∧ Below w.heap.size w w' := by
  obtain ⟨O, p, h1, h2, h3, h4, h5⟩ := h; exact ar_valid h2 h4 hk z
theorem tw1_len (h : TW w0 w T A B C A2 B2 C2 k q M M2) : Calls Try.prog 57 #[.pointer (some ⟨A, 0, none⟩)] w fun e w' => e = .returned (.int .i64 ((256 : Int) - M.row.length)) ∧ Below w.heap.size w w' := by
  obtain ⟨O, p, h1, h2, h3, h4, h5⟩ := h; exact ar_len h1
theorem tw1_full (h : TW w0 w T A B C A2 B2 C2 k q M M2) (hr : M.row = []) : Calls Try.prog 50 #[.pointer (some ⟨A, 0, none⟩)] w fun e w' => e = .returned (.tuple #[.int .i64 0, .int .i64 6]) ∧ Below w.heap.size w w' := by
  obtain ⟨O, p, h1, h2, h3, h4, h5⟩ := h; exact ar_full h1 hr
theorem tw1_make (h : TW w0 w T A B C A2 B2 C2 k q M M2) (hk : k ≤ 1000000) (s : Nat) (r : List Nat) (hr : M.row = s :: r) :
    Calls Try.prog 50 #[.pointer (some ⟨A, 0, none⟩)] w fun e w' => e = .returned (.tuple #[.int .i64 (256 * ((M.g.getD s 0 + 1 : Nat) : Int) + s), .int .i64 0]) ∧ TW w0 w' T A B C A2 B2 C2 (k + 1) q (M.make s r) M2 := by
  obtain ⟨O, p, h1, h2, h3, h4, h5⟩ := h
  refine (ar_make h1 h3 hk s r hr).mono fun e w' ⟨he, hn⟩ => ⟨he, ?_⟩
  have hsm := ((h1.r.mem s).1 (by rw [hr]; simp)).1
  have hs' := h3.make s r
  obtain ⟨O', a, b⟩ := two_next h2 hn (h2.r.frame (by rw [makeP_len1]; exact Nat.le_refl _) fun j hj _ => makeP_far p h1.r.len hsm j (by omega))
  exact ⟨O', _, a, b, hs', h4.other hs' (by omega), h5.trans (Hist.make p 0 s)⟩
theorem tw2_make (h : TW w0 w T A B C A2 B2 C2 k q M M2) (hk : k ≤ 1000000) (s : Nat) (r : List Nat) (hr : M2.row = s :: r) :
    Calls Try.prog 50 #[.pointer (some ⟨A2, 0, none⟩)] w fun e w' => e = .returned (.tuple #[.int .i64 (256 * ((M2.g.getD s 0 + 1 : Nat) : Int) + s), .int .i64 0]) ∧ TW w0 w' T A B C A2 B2 C2 (k + 1) q M (M2.make s r) := by
  obtain ⟨O, p, h1, h2, h3, h4, h5⟩ := h
  refine (ar_make h2 h4 hk s r hr).mono fun e w' ⟨he, hn⟩ => ⟨he, ?_⟩
  have hsm := ((h2.r.mem s).1 (by rw [hr]; simp)).1
  have hs' := h4.make s r
  obtain ⟨O', a, b⟩ := two_next h1 hn (h1.r.frame (by rw [makeP_len1]; exact Nat.le_refl _) fun j hj _ => makeP_far p h2.r.len hsm j (by omega))
  exact ⟨O', _, b, a, h3.other hs' (by omega), hs', h5.trans (Hist.make p 514 s)⟩
theorem tw1_free (h : TW w0 w T A B C A2 B2 C2 k q M M2) (hk : k ≤ 1000000) (z : Int) (s : Nat) (hz : M.slot z = s) :
    Calls Try.prog 47 #[.pointer (some ⟨A, 0, none⟩), .int .i64 z] w fun e w' => e = .returned (.int .i64 0) ∧ TW w0 w' T A B C A2 B2 C2 (k + 1) q (M.free s) M2 := by
  obtain ⟨O, p, h1, h2, h3, h4, h5⟩ := h
  refine (ar_free h1 h3 hk z s hz).mono fun e w' ⟨he, hn⟩ => ⟨he, ?_⟩
  obtain ⟨s', e, hsm, hu, _⟩ := slot_used h1.r (z := z) (by rw [hz]; omega)
  obtain rfl : s' = s := by rw [hz] at e; omega
  have hs' := h3.free s'
  obtain ⟨O', a, b⟩ := two_next h2 hn (h2.r.frame (by rw [freeP_len1]; exact Nat.le_refl _) fun j hj _ => freeP_far p h1.r.len hsm j (by omega))
  exact ⟨O', _, a, b, hs', h4.other hs' (by omega), h5.trans (Hist.free p 0 s')⟩
theorem tw2_free (h : TW w0 w T A B C A2 B2 C2 k q M M2) (hk : k ≤ 1000000) (z : Int) (s : Nat) (hz : M2.slot z = s) :
    Calls Try.prog 47 #[.pointer (some ⟨A2, 0, none⟩), .int .i64 z] w fun e w' => e = .returned (.int .i64 0) ∧ TW w0 w' T A B C A2 B2 C2 (k + 1) q M (M2.free s) := by
  obtain ⟨O, p, h1, h2, h3, h4, h5⟩ := h
  refine (ar_free h2 h4 hk z s hz).mono fun e w' ⟨he, hn⟩ => ⟨he, ?_⟩
  obtain ⟨s', e, hsm, hu, _⟩ := slot_used h2.r (z := z) (by rw [hz]; omega)
  obtain rfl : s' = s := by rw [hz] at e; omega
  have hs' := h4.free s'
  obtain ⟨O', a, b⟩ := two_next h1 hn (h1.r.frame (by rw [freeP_len1]; exact Nat.le_refl _) fun j hj _ => freeP_far p h2.r.len hsm j (by omega))
  exact ⟨O', _, b, a, h3.other hs' (by omega), hs', h5.trans (Hist.free p 514 s')⟩
/-- A mark of both. -/
def Mark2 (k : Nat) (q : List Int × List (Int × Int)) (M M2 : AM) (m : Int) : Prop := m = (q.2.length : Nat) ∧ Rep q.1 0 256 M ∧ Sm 0 256 q M k ∧ Rep q.1 514 1 M2 ∧ Sm 514 1 q M2 k
theorem Mark2.mono {m : Int} (h : Mark2 k q M M2 m) (hn : k ≤ n) : Mark2 n q M M2 m := ⟨h.1, h.2.1, h.2.2.1.mono hn, h.2.2.2.1, h.2.2.2.2.mono hn⟩
theorem tw_mark (h : TW w0 w T A B C A2 B2 C2 k q M M2) :
    Calls Try.prog 26 #[.pointer (some ⟨T, 0, none⟩)] w fun e w' => ∃ q' m, e = .returned (.int .i64 m) ∧ Mark2 k q' M M2 m ∧ TW w0 w T A B C A2 B2 C2 k q' M M2 ∧ w = w' := by
  obtain ⟨O, p, h1, h2, h3, h4, h5⟩ := h
  exact (tr_mark h1.t).mono fun e w' ⟨he, hw⟩ => ⟨p, _, he, ⟨rfl, h1.r, h3, h2.r, h4⟩, ⟨O, p, h1, h2, h3, h4, Hist.refl p⟩, hw⟩
theorem tw_back (h : TW w0 w T A B C A2 B2 C2 k q M M2) (hk : k ≤ 1000000) {m : Int} (hm : Mark2 k q M' M2' m) :
    Calls Try.prog 24 #[.pointer (some ⟨T, 0, none⟩), .int .i64 m] w fun e w' => e = .returned (.int .i64 0) ∧ TW w0 w' T A B C A2 B2 C2 k q M' M2' := by
  obtain ⟨O, p, h1, h2, h3, h4, h5⟩ := h
  obtain ⟨rfl, hr, hs, hr2, hs2⟩ := hm
  refine (ar_back h1 h5 hr (by have := h3.l; omega)).mono fun e w' ⟨he, hn⟩ => ⟨he, ?_⟩
  obtain ⟨O', a, b⟩ := two_next h2 hn hr2
  exact ⟨O', q, a, b, hs, hs2, Hist.refl q⟩
/-- One arena on a new trail; then the other. -/
theorem tw_new1 (hT : TrS w0 w T O [] []) : Calls Try.prog 44 #[.pointer (some ⟨T, 0, none⟩), .int .i64 256] w fun e w' => ∃ A B C, e = .returned (.pointer (some ⟨A, 0, none⟩)) ∧ ∃ O', AR w0 w' A B C T O' 0 256 (newP [] [] 256) (AM.new 256) := by
  refine (ar_new hT 256 (by decide) (by decide) (by simp) (by simp)).mono ?_
  rintro e w' ⟨A, B, C, he, hN, _⟩
  obtain ⟨O', a, _⟩ := hN.st
  exact ⟨A, B, C, he, O', a⟩
theorem tw_new2 (h : AR w0 w A B C T O 0 256 (newP [] [] 256) (AM.new 256)) : Calls Try.prog 44 #[.pointer (some ⟨T, 0, none⟩), .int .i64 1] w fun e w' => ∃ A2 B2 C2 q, e = .returned (.pointer (some ⟨A2, 0, none⟩)) ∧ TW w0 w' T A B C A2 B2 C2 0 q (AM.new 256) (AM.new 1) := by
  obtain ⟨p, hp⟩ : ∃ p, newP [] [] 256 = p := ⟨_, rfl⟩
  have hl := newP_len [] [] 256 (by decide)
  have hs := new_sm (cs := []) (hs := []) 256 (by decide) (by decide) (by simp) (by simp)
  rw [hp] at h hl hs
  have hl1 : p.1.length = 514 := hl.2
  have hl2 : p.2.length ≤ 257 := hl.1
  refine (ar_new h.t 1 (by decide) (by decide) (by omega) (by omega)).mono ?_
  rintro e w' ⟨A2, B2, C2, he, hN, _⟩
  have hs2 := new_sm (cs := p.1) (hs := p.2) 1 (by decide) (by decide) (by omega) (by omega)
  have hlen := newP_len p.1 p.2 1 (by decide)
  obtain ⟨O', a, b⟩ := two_next h hN (h.r.frame (by omega) fun j hj hj2 => newP_far p.1 p.2 1 (by decide) j (by omega))
  rw [hl1] at a hs2
  exact ⟨A2, B2, C2, _, he, O', _, b, a, hs.other hs2 (Nat.le_refl _), hs2, Hist.refl _⟩
end
/-! The arena that is none. -/
theorem at_nil (w : World) (s : Int) : Calls Try.prog 55 #[.pointer none, .int .i64 s] w fun e w' => e = .returned (.int .i64 0) ∧ w = w' := by
  go_enter Try.func55, Try.ntmps55
  go_wp2_with (go_at_call 83; refine (none_nil w).mono ?_; rintro e w' ⟨rfl, rfl⟩)
  go_ret
  exact ⟨rfl, rfl⟩
theorem slot_nil (w : World) : Calls Try.prog 54 #[.pointer none, .int .i64 256] w fun e w' => e = .returned (.int .i64 (-1)) ∧ w = w' := by
  have hand : bits .and .i64 256 255 = 0 := by rw [i64_and255]; rfl
  go_enter Try.func54, Try.ntmps54
  go_wp2_with (go_at_call 55; refine (at_nil w _).mono ?_; rintro e w' ⟨rfl, rfl⟩)
  go_ret
  exact ⟨rfl, rfl⟩
theorem valid_nil (w : World) : Calls Try.prog 52 #[.pointer none, .int .i64 256] w fun e w' => e = .returned (.bool false) ∧ w = w' := by
  go_enter Try.func52, Try.ntmps52
  go_wp2_with (go_at_call 54; refine (slot_nil w).mono ?_; rintro e w' ⟨rfl, rfl⟩)
  go_ret
  exact ⟨rfl, rfl⟩
theorem len_nil (w : World) : Calls Try.prog 57 #[.pointer none] w fun e w' => e = .returned (.int .i64 0) ∧ w = w' := by
  go_enter Try.func57, Try.ntmps57
  go_wp2_with (go_at_call 83; refine (none_nil w).mono ?_; rintro e w' ⟨rfl, rfl⟩)
  go_ret
  exact ⟨rfl, rfl⟩
/-! What they answer, with the world a later one. -/
section
variable {w0 w : World} {T A B C A2 B2 C2 k : Nat} {q : List Int × List (Int × Int)} {M M2 : AM}
theorem tl_valid (h : TW w0 w T A B C A2 B2 C2 k q M M2) (hk : k ≤ 1000000) (z v : Int) (b : Bool) (hv : M.slot z = v) (hb : decide (0 ≤ v) = b) (u : World) : Calls Try.prog 52 #[.pointer (some ⟨A, 0, none⟩), .int .i64 z] (lat w u) fun e w' => e = .returned (.bool b) ∧ Below (lat w u).heap.size (lat w u) w' := by
  subst hb; subst hv
  exact tw1_valid (h.below (bel_lat0 w u)) hk z
theorem tl2_valid (h : TW w0 w T A B C A2 B2 C2 k q M M2) (hk : k ≤ 1000000) (z v : Int) (b : Bool) (hv : M2.slot z = v) (hb : decide (0 ≤ v) = b) (u : World) : Calls Try.prog 52 #[.pointer (some ⟨A2, 0, none⟩), .int .i64 z] (lat w u) fun e w' => e = .returned (.bool b) ∧ Below (lat w u).heap.size (lat w u) w' := by
  subst hb; subst hv
  exact tw2_valid (h.below (bel_lat0 w u)) hk z
theorem tl_at (h : TW w0 w T A B C A2 B2 C2 k q M M2) (hk : k ≤ 1000000) (z v : Int) (hv : M.at z = v) (u : World) : Calls Try.prog 55 #[.pointer (some ⟨A, 0, none⟩), .int .i64 z] (lat w u) fun e w' => e = .returned (.int .i64 v) ∧ Below (lat w u).heap.size (lat w u) w' := by
  subst hv
  exact tw1_at (h.below (bel_lat0 w u)) hk z
theorem tl_slot (h : TW w0 w T A B C A2 B2 C2 k q M M2) (hk : k ≤ 1000000) (z v : Int) (hv : M.slot z = v) (u : World) : Calls Try.prog 54 #[.pointer (some ⟨A, 0, none⟩), .int .i64 z] (lat w u) fun e w' => e = .returned (.int .i64 v) ∧ Below (lat w u).heap.size (lat w u) w' := by
  subst hv
  exact tw1_slot (h.below (bel_lat0 w u)) hk z
theorem tl_len (h : TW w0 w T A B C A2 B2 C2 k q M M2) (hr : M.row = []) (u : World) : Calls Try.prog 57 #[.pointer (some ⟨A, 0, none⟩)] (lat w u) fun e w' => e = .returned (.int .i64 256) ∧ Below (lat w u).heap.size (lat w u) w' := by
  have := tw1_len (h.below (bel_lat0 w u))
  rw [hr] at this
  exact this
end
/-! make1. -/
theorem mk1_of {w : World} {v : Value} {h : Int} {R : World → Prop} (hc : Calls Try.prog 50 #[v] w fun e w' => e = .returned (.tuple #[.int .i64 h, .int .i64 0]) ∧ R w') : Calls Try.prog 62 #[v] w fun e w' => e = .returned (.int .i64 h) ∧ R w' := by
  have hm := Lib.hid hc
  clear hc
  go_enter Try.func62, Try.ntmps62
  go_wp2_with (go_at_call 50; refine hm.out.mono ?_; rintro e w1 ⟨rfl, hN⟩)
  go_ret
  exact ⟨rfl, hN⟩
/-! The first arena, i of its 256 made. -/
def KM (i : Nat) : AM := ⟨List.range' i (256 - i), List.replicate i 1 ++ List.replicate (256 - i) 0, List.replicate i true ++ List.replicate (256 - i) false⟩
theorem km_zero : AM.new 256 = KM 0 := by
  unfold AM.new KM
  rw [List.range_eq_range']; rfl
theorem set_rep {α : Type} (a b : α) (i n : Nat) : (List.replicate i a ++ List.replicate (n + 1) b).set i a = List.replicate (i + 1) a ++ List.replicate n b := by
  rw [List.set_append_right i a (by simp), List.replicate_succ (n := n), List.replicate_succ' (n := i)]
  simp
theorem km_row {i : Nat} (h : i < 256) : (KM i).row = i :: List.range' (i + 1) (256 - (i + 1)) := by
  show List.range' i (256 - i) = _
  rw [show 256 - i = (256 - (i + 1)) + 1 by omega, List.range'_succ]
theorem km_g (i : Nat) : (KM i).g.getD i 0 = 0 := by
  show (List.replicate i 1 ++ List.replicate (256 - i) 0).getD i 0 = 0
  rw [List.getD_eq_getElem?_getD, List.getElem?_append_right (by simp), List.getElem?_replicate]
  split <;> rfl
theorem km_step {i : Nat} (h : i < 256) : (KM i).make i (List.range' (i + 1) (256 - (i + 1))) = KM (i + 1) := by
  unfold AM.make
  rw [km_g i]
  unfold KM
  dsimp only
  rw [show 256 - i = (256 - (i + 1)) + 1 by omega, Nat.zero_add, set_rep 1 0, set_rep true false]
theorem tk_make {w0 w : World} {T A B C A2 B2 C2 i : Nat} {q : List Int × List (Int × Int)} {M2 : AM} (h : TW w0 w T A B C A2 B2 C2 i q (KM i) M2) (hi : i < 256) : Calls Try.prog 62 #[.pointer (some ⟨A, 0, none⟩)] w fun e w' => e = .returned (.int .i64 (256 + (i : Int))) ∧ TW w0 w' T A B C A2 B2 C2 (i + 1) q (KM (i + 1)) M2 := by
  have := mk1_of (tw1_make h (by omega) i _ (km_row hi))
  rw [km_g i, km_step hi] at this
  exact this.mono fun e w' ⟨he, hn⟩ => ⟨he.trans (by simp), hn⟩
/-! What is so at the end. -/
def KA : AM := ((((KM 256).free 9).free 7).make 7 [9]).make 9 []
def KB : AM := (AM.new 1).make 0 []
theorem ka_facts : (KM 256).row = [] ∧ (KM 256).slot 265 = (9 : Nat) ∧ ((KM 256).free 9).slot 263 = (7 : Nat) ∧ (((KM 256).free 9).free 7).row = [7, 9] ∧ ((((KM 256).free 9).free 7).make 7 [9]).row = [9] ∧
    (((KM 256).free 9).free 7).g.getD 7 0 = 1 ∧ ((((KM 256).free 9).free 7).make 7 [9]).g.getD 9 0 = 1 ∧ KA.slot 456 = (200 : Nat) ∧ KB.slot 256 = (0 : Nat) ∧ (AM.new 1).row = [0] ∧ (AM.new 1).g.getD 0 0 = 0 := by decide +kernel
theorem ka_ends : KA.row = [] ∧ KA.at 255 = 511 ∧ KA.at 256 = 0 ∧ KA.at (-1) = 0 ∧ KA.slot 0 = -1 ∧ KA.slot (-256) = -1 ∧ KA.slot 9 = -1 ∧ KA.slot 1099511627776 = -1 := by decide +kernel
end Go.Proofs.Ytfkkkndigkchcaa
