/- The plain law of an index: what its cells hold, and what becomes of them. No condition. -/
import Derived.Test.YtcgadmeagbcbnaaDoorIdxBa
import Derived.Test.YtcgadmeagbcbnaaDoorTrailTr
namespace Go.Proofs.YtcgadmeagbcbnaaDoor

/-- A word, as the number that stands in a cell. -/
def sg (x : Nat) : Int := IntKind.i64.wrap (x : Int)
theorem sg_val (x : Nat) (hx : x < 2 ^ 64) : sg x = if x < 9223372036854775808 then (x : Int) else (x : Int) - 18446744073709551616 := by
  unfold sg
  rw [IntKind.wrap_i64]
  split <;> omega
theorem sg_back (x : Nat) (hx : x < 2 ^ 64) : IntKind.u64.wrap (sg x) = (x : Int) := by
  have hw : ∀ n, IntKind.u64.wrap n = n % 18446744073709551616 := fun n => by simp [IntKind.wrap, IntKind.bits, IntKind.signed]
  rw [sg_val x hx, hw]
  split <;> omega
theorem sg_inj {x y : Nat} (hx : x < 2 ^ 64) (hy : y < 2 ^ 64) (h : sg x = sg y) : x = y := by
  have h1 := sg_back x hx
  have h2 := sg_back y hy
  rw [h] at h1
  omega

/-- Which set is a key's; 0: none. -/
def kx (k e : Int) : Nat := if (1 ≤ k ∧ k ≤ 5) ∧ (0 ≤ e ∧ e ≤ 6) then 1 + (k - 1).toNat * 7 + e.toNat else 0
theorem kx_lt (k e : Int) : kx k e < 36 := by unfold kx; split <;> omega

/-- What slots hold, and the sets; the set 0 is of those that are touched. -/
structure IM where
  H : List Int
  Z : Nat → List Nat
def IHolds (b : Nat) (cs : List Int) (m : IM) : Prop :=
  b + 400 ≤ cs.length ∧ m.H.length = 256 ∧ (∀ i, i < 256 → cs.getD (b + i) 0 = m.H.getD i 0) ∧ ∀ s, s < 36 → wfB (m.Z s) ∧ ∀ j, j < 4 → cs.getD (b + 256 + 4 * s + j) 0 = sg ((m.Z s).getD j 0)
def upd (Z : Nat → List Nat) (s : Nat) (S : List Nat) : Nat → List Nat := fun t => if t = s then S else Z t
theorem upd_same (Z : Nat → List Nat) (s : Nat) : upd Z s (Z s) = Z := by
  funext t; unfold upd; split
  · rename_i h; rw [h]
  · rfl
theorem upd_at (Z : Nat → List Nat) (s : Nat) (S : List Nat) : upd Z s S s = S := if_pos rfl
theorem upd_upd (Z : Nat → List Nat) (s : Nat) (S S' : List Nat) : upd (upd Z s S) s S' = upd Z s S' := by
  funext t; unfold upd; split <;> rfl
theorem getZ_nat (cs : List Int) (n : Nat) (h : n < cs.length) : getZ cs (n : Int) = cs.getD n 0 := by
  unfold getZ; rw [if_pos ⟨by omega, by omega⟩, Int.toNat_natCast]
theorem setC_nat (cs : List Int) (n : Nat) (v : Int) (h : n < cs.length) : setC cs (n : Int) v = cs.set n v := by
  unfold setC; rw [if_pos ⟨by omega, by omega⟩, Int.toNat_natCast]
theorem getD_setI (S : List Int) (i j : Nat) (x : Int) (hi : i < S.length) : (S.set i x).getD j 0 = if i = j then x else S.getD j 0 := by
  simp only [List.getD_eq_getElem?_getD, List.getElem?_set]
  by_cases h : i = j
  · subst h; simp [hi]
  · simp [h]
section
variable {b : Nat} {cs : List Int} {m : IM}
theorem IHolds.heldZ (h : IHolds b cs m) {i : Nat} (hi : i < 256) : getZ cs ((b + i : Nat) : Int) = m.H.getD i 0 := by
  rw [getZ_nat _ _ (by have := h.1; omega)]; exact h.2.2.1 i hi
theorem IHolds.wordZ (h : IHolds b cs m) {s j : Nat} (hs : s < 36) (hj : j < 4) : getZ cs ((b + 256 + 4 * s + j : Nat) : Int) = sg ((m.Z s).getD j 0) := by
  rw [getZ_nat _ _ (by have := h.1; omega)]; exact (h.2.2.2 s hs).2 j hj
theorem IHolds.wf (h : IHolds b cs m) {s : Nat} (hs : s < 36) : wfB (m.Z s) := (h.2.2.2 s hs).1
theorem IHolds.setHeld (h : IHolds b cs m) {i : Nat} (hi : i < 256) (v : Int) : IHolds b (setC cs ((b + i : Nat) : Int) v) ⟨m.H.set i v, m.Z⟩ := by
  obtain ⟨h1, h2, h3, h4⟩ := h
  rw [setC_nat _ _ _ (by omega)]
  refine ⟨by rw [List.length_set]; exact h1, by rw [List.length_set]; exact h2, fun k hk => ?_, fun s hs => ⟨(h4 s hs).1, fun j hj => ?_⟩⟩
  · rw [getD_setI _ _ _ _ (by omega), getD_setI _ _ _ _ (by omega), h3 k hk]
    by_cases e : i = k
    · subst e; simp
    · rw [if_neg (by omega), if_neg e]
  · rw [getD_setI _ _ _ _ (by omega), if_neg (by omega)]; exact (h4 s hs).2 j hj
theorem IHolds.setWord (h : IHolds b cs m) {s j : Nat} (hs : s < 36) (hj : j < 4) (x : Nat) (hx : x < 2 ^ 64) : IHolds b (setC cs ((b + 256 + 4 * s + j : Nat) : Int) (sg x)) ⟨m.H, upd m.Z s ((m.Z s).set j x)⟩ := by
  obtain ⟨h1, h2, h3, h4⟩ := h
  rw [setC_nat _ _ _ (by omega)]
  refine ⟨by rw [List.length_set]; exact h1, h2, fun k hk => ?_, fun s' hs' => ?_⟩
  · rw [getD_setI _ _ _ _ (by omega), if_neg (by omega)]; exact h3 k hk
  · unfold upd
    by_cases e : s' = s
    · subst e
      simp only [if_true]
      refine ⟨wf_set (h4 s' hs').1 j x hx, fun j' hj' => ?_⟩
      rw [getD_setI _ _ _ _ (by omega), getD_set _ _ _ _ (by rw [(h4 s' hs').1.1]; omega)]
      by_cases e2 : j = j'
      · subst e2; simp
      · rw [if_neg (by omega), if_neg e2]; exact (h4 s' hs').2 j' hj'
    · simp only [if_neg e]
      refine ⟨(h4 s' hs').1, fun j' hj' => ?_⟩
      rw [getD_setI _ _ _ _ (by omega), if_neg (by omega)]; exact (h4 s' hs').2 j' hj'
end
/-! A set's change, word by word: j words are new. -/
def mix (S S' : List Nat) (j : Nat) : List Nat := S'.take j ++ S.drop j
theorem mix_zero (S S' : List Nat) : mix S S' 0 = S := by simp [mix]
theorem mix_four {S S' : List Nat} (h : wfB S) (h' : wfB S') : mix S S' 4 = S' := by
  obtain ⟨a, b, c, d, rfl, _⟩ := wf_form h
  obtain ⟨a', b', c', d', rfl, _⟩ := wf_form h'
  rfl
theorem mix_succ {S S' : List Nat} (h : wfB S) (h' : wfB S') {j : Nat} (hj : j < 4) : mix S S' (j + 1) = (mix S S' j).set j (S'.getD j 0) := by
  obtain ⟨a, b, c, d, rfl, _⟩ := wf_form h
  obtain ⟨a', b', c', d', rfl, _⟩ := wf_form h'
  match j, hj with
  | 0, _ => rfl
  | 1, _ => rfl
  | 2, _ => rfl
  | 3, _ => rfl
theorem mix_at {S S' : List Nat} (h : wfB S) (h' : wfB S') {j : Nat} (hj : j < 4) : (mix S S' j).getD j 0 = S.getD j 0 := by
  obtain ⟨a, b, c, d, rfl, _⟩ := wf_form h
  obtain ⟨a', b', c', d', rfl, _⟩ := wf_form h'
  match j, hj with
  | 0, _ => rfl
  | 1, _ => rfl
  | 2, _ => rfl
  | 3, _ => rfl
theorem set_same_at {S : List Nat} (h : wfB S) {j : Nat} (hj : j < 4) : S.set j (S.getD j 0) = S := by
  obtain ⟨a, b, c, d, rfl, _⟩ := wf_form h
  match j, hj with
  | 0, _ => rfl
  | 1, _ => rfl
  | 2, _ => rfl
  | 3, _ => rfl
theorem wf_mix {S S' : List Nat} (h : wfB S) (h' : wfB S') {j : Nat} (hj : j ≤ 4) : wfB (mix S S' j) := by
  obtain ⟨a, b, c, d, rfl, h1, h2, h3, h4⟩ := wf_form h
  obtain ⟨a', b', c', d', rfl, k1, k2, k3, k4⟩ := wf_form h'
  match j, hj with
  | 0, _ => exact wf_mk h1 h2 h3 h4
  | 1, _ => exact wf_mk k1 h2 h3 h4
  | 2, _ => exact wf_mk k1 k2 h3 h4
  | 3, _ => exact wf_mk k1 k2 k3 h4
  | 4, _ => exact wf_mk k1 k2 k3 k4

/-! A slot that is let go, and taken up. -/
def delK (i : Nat) (Z : Nat → List Nat) (q : Int × Int) : Nat → List Nat := if kx q.1 q.2 = 0 then Z else upd Z (kx q.1 q.2) (delB (Z (kx q.1 q.2)) i)
def addK (i : Nat) (Z : Nat → List Nat) (q : Int × Int) : Nat → List Nat := if kx q.1 q.2 = 0 then Z else upd Z (kx q.1 q.2) (addB (Z (kx q.1 q.2)) i)
def holdM (ks ks' : List (Int × Int)) (i : Nat) (v : Int) (m : IM) : IM := ⟨m.H.set i v, ks'.foldl (addK i) (ks.foldl (delK i) m.Z)⟩
def absOf (abs : List (List (Int × Int))) (c : Int) : List (Int × Int) := if 0 ≤ c ∧ c < abs.length then abs.getD c.toNat [] else []
def hasK (ks : List (Int × Int)) (s : Nat) : Bool := ks.any fun q => kx q.1 q.2 == s
def wfZ (Z : Nat → List Nat) : Prop := ∀ s, s < 36 → wfB (Z s)
theorem del_fold (i : Nat) (hi : i < 256) : ∀ (ks : List (Int × Int)) (Z : Nat → List Nat), wfZ Z → wfZ (ks.foldl (delK i) Z) ∧ (ks.foldl (delK i) Z) 0 = Z 0 ∧ ∀ s, 1 ≤ s → s < 36 → ∀ j, hasS ((ks.foldl (delK i) Z) s) j = (hasS (Z s) j && !(decide (j = i) && hasK ks s)) := by
  intro ks
  induction ks with
  | nil => exact fun Z h => ⟨h, rfl, fun s _ _ j => by simp [hasK]⟩
  | cons q ks ih =>
    intro Z h
    have hx := kx_lt q.1 q.2
    have h1 : wfZ (delK i Z q) := fun s hs => by
      unfold delK; split
      · exact h s hs
      · unfold upd; split
        · exact wf_del (h _ hx) i
        · exact h s hs
    obtain ⟨a1, a2, a3⟩ := ih (delK i Z q) h1
    refine ⟨a1, a2.trans ?_, fun s hs hs' j => ?_⟩
    · unfold delK; split
      · rfl
      · rename_i hn; unfold upd; rw [if_neg (fun e => hn e.symm)]
    · rw [List.foldl_cons, a3 s hs hs' j]
      unfold delK hasK
      rw [List.any_cons]
      by_cases e0 : kx q.1 q.2 = 0
      · rw [if_pos e0, show (kx q.1 q.2 == s) = false by simp; omega, Bool.false_or]
      · rw [if_neg e0]
        unfold upd
        by_cases e : s = kx q.1 q.2
        · rw [if_pos e, ← e, has_del (h s hs') i j hi, beq_self_eq_true, Bool.true_or, Bool.and_true]
          by_cases ej : j = i
          · subst ej; simp
          · simp [ej]
        · rw [if_neg e, show (kx q.1 q.2 == s) = false by simp; omega, Bool.false_or]
theorem add_fold (i : Nat) (hi : i < 256) : ∀ (ks : List (Int × Int)) (Z : Nat → List Nat), wfZ Z → wfZ (ks.foldl (addK i) Z) ∧ (ks.foldl (addK i) Z) 0 = Z 0 ∧ ∀ s, 1 ≤ s → s < 36 → ∀ j, hasS ((ks.foldl (addK i) Z) s) j = (hasS (Z s) j || (decide (j = i) && hasK ks s)) := by
  intro ks
  induction ks with
  | nil => exact fun Z h => ⟨h, rfl, fun s _ _ j => by simp [hasK]⟩
  | cons q ks ih =>
    intro Z h
    have hx := kx_lt q.1 q.2
    have h1 : wfZ (addK i Z q) := fun s hs => by
      unfold addK; split
      · exact h s hs
      · unfold upd; split
        · exact wf_add (h _ hx) i
        · exact h s hs
    obtain ⟨a1, a2, a3⟩ := ih (addK i Z q) h1
    refine ⟨a1, a2.trans ?_, fun s hs hs' j => ?_⟩
    · unfold addK; split
      · rfl
      · rename_i hn; unfold upd; rw [if_neg (fun e => hn e.symm)]
    · rw [List.foldl_cons, a3 s hs hs' j]
      unfold addK hasK
      rw [List.any_cons]
      by_cases e0 : kx q.1 q.2 = 0
      · rw [if_pos e0, show (kx q.1 q.2 == s) = false by simp; omega, Bool.false_or]
      · rw [if_neg e0]
        unfold upd
        by_cases e : s = kx q.1 q.2
        · rw [if_pos e, ← e, has_add (h s hs') i j hi, beq_self_eq_true, Bool.true_or, Bool.and_true]
          by_cases ej : j = i
          · subst ej; simp
          · simp [ej]
        · rw [if_neg e, show (kx q.1 q.2 == s) = false by simp; omega, Bool.false_or]
/-- Each slot is in the sets of what it holds, and in no others. -/
structure IGood (abs : List (List (Int × Int))) (m : IM) : Prop where
  len : m.H.length = 256
  wf : wfZ m.Z
  rng : ∀ i, i < 256 → 0 ≤ m.H.getD i 0 ∧ m.H.getD i 0 ≤ 40
  has : ∀ s, 1 ≤ s → s < 36 → ∀ i, i < 256 → hasS (m.Z s) i = hasK (absOf abs (m.H.getD i 0 - 1)) s
theorem good_hold {abs : List (List (Int × Int))} {m : IM} (h : IGood abs m) {i : Nat} (hi : i < 256) {v : Int} (h0 : 0 ≤ v) (h1 : v ≤ 40) :
    IGood abs (holdM (absOf abs (m.H.getD i 0 - 1)) (absOf abs (v - 1)) i v m) ∧ (holdM (absOf abs (m.H.getD i 0 - 1)) (absOf abs (v - 1)) i v m).Z 0 = m.Z 0 := by
  have hlen := h.len
  obtain ⟨a1, a2, a3⟩ := del_fold i hi (absOf abs (m.H.getD i 0 - 1)) m.Z h.wf
  obtain ⟨b1, b2, b3⟩ := add_fold i hi (absOf abs (v - 1)) _ a1
  refine ⟨⟨by show (m.H.set i v).length = 256; rw [List.length_set]; exact hlen, b1, fun k hk => ?_, fun s hs hs' k hk => ?_⟩, b2.trans a2⟩
  · show 0 ≤ (m.H.set i v).getD k 0 ∧ _
    rw [show (holdM (absOf abs (m.H.getD i 0 - 1)) (absOf abs (v - 1)) i v m).H = m.H.set i v from rfl, getD_setI _ _ _ _ (by omega)]
    split
    · exact ⟨h0, h1⟩
    · exact h.rng k hk
  · rw [show (holdM (absOf abs (m.H.getD i 0 - 1)) (absOf abs (v - 1)) i v m).H = m.H.set i v from rfl, getD_setI _ _ _ _ (by omega)]
    show hasS (((absOf abs (v - 1)).foldl (addK i) _) s) k = _
    rw [b3 s hs hs' k, a3 s hs hs' k, h.has s hs hs' k hk]
    by_cases e : i = k
    · subst e; simp
    · rw [if_neg e]
      simp [show ¬ k = i from fun e' => e e'.symm]
/-- A cell set, and the change noted. -/
def setP (p : List Int × List (Int × Int)) (i v : Int) : List Int × List (Int × Int) := (setC p.1 i v, setH p.1 p.2 i v)
/-- One may go back from here to all that there was. -/
def Hist (p p' : List Int × List (Int × Int)) : Prop := p.2.length ≤ p'.2.length ∧ ∀ m, m ≤ p.2.length → was p'.1 p'.2 m = was p.1 p.2 m ∧ p'.2.take m = p.2.take m
theorem Hist.refl (p : List Int × List (Int × Int)) : Hist p p := ⟨Nat.le_refl _, fun _ _ => ⟨rfl, rfl⟩⟩
theorem Hist.trans {a b c : List Int × List (Int × Int)} (h : Hist a b) (h' : Hist b c) : Hist a c :=
  ⟨Nat.le_trans h.1 h'.1, fun m hm => ⟨(h'.2 m (Nat.le_trans hm h.1)).1.trans (h.2 m hm).1, (h'.2 m (Nat.le_trans hm h.1)).2.trans (h.2 m hm).2⟩⟩
theorem Hist.back {a b : List Int × List (Int × Int)} (h : Hist a b) : was b.1 b.2 a.2.length = a.1 ∧ b.2.take a.2.length = a.2 := by
  have := h.2 a.2.length (Nat.le_refl _)
  rw [was_last, List.take_length] at this
  exact this
theorem Hist.set (p : List Int × List (Int × Int)) (i v : Int) : Hist p (setP p i v) := by
  obtain ⟨cs, hs⟩ := p
  refine ⟨(setH_len cs hs i v).1, fun m hm => ?_⟩
  show was (setC cs i v) (setH cs hs i v) m = _ ∧ (setH cs hs i v).take m = _
  unfold setC setH
  by_cases hi : 0 ≤ i ∧ i < cs.length
  · rw [if_pos hi]
    obtain ⟨n, rfl⟩ := Int.eq_ofNat_of_zero_le hi.1
    have hn : n < cs.length := by have := hi.2; omega
    have hg : getZ cs (n : Int) = cs.getD n 0 := by unfold getZ; rw [if_pos hi, Int.toNat_natCast]
    rw [Int.toNat_natCast]
    by_cases hv : getZ cs (n : Int) = v
    · rw [if_neg (fun h => h.2 hv)]
      have : cs.set n v = cs := by
        rw [← hv, hg]
        apply List.ext_getElem (by simp)
        intro j h1 h2
        by_cases e : n = j
        · subst e; simp [List.getD_eq_getElem?_getD, hn]
        · simp [e]
      rw [this]; exact ⟨rfl, rfl⟩
    · rw [if_pos ⟨hi, hv⟩, hg]
      exact ⟨was_set cs hs hn v m hm, List.take_append_of_le_length hm⟩
  · rw [if_neg hi, if_neg (fun h => hi h.1)]; exact ⟨rfl, rfl⟩
end Go.Proofs.YtcgadmeagbcbnaaDoor
