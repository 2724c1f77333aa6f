/- Orders and their inverse; a list turned, and turned back. No condition. -/
import Derived.Test.YtfkkkndigkchcaaZoneG
import Derived.Test.YtfkkkndigkchcaaZoneH
import Derived.Test.YtfkkkndigkchcaaTrailAlike
namespace Go.Proofs.Ytfkkkndigkchcaa
open Go.RowKit

/-- Two places exchanged. -/
def swp (l : List Int) (i k : Nat) : List Int := (l.set i (l.getD k 0)).set k (l.getD i 0)
theorem swp_len (l : List Int) (i k : Nat) : (swp l i k).length = l.length := by simp [swp]
theorem getD_setI (l : List Int) (i j : Nat) (v : Int) : (l.set i v).getD j 0 = if i = j ∧ j < l.length then v else l.getD j 0 := by
  simp only [List.getD_eq_getElem?_getD, List.getElem?_set]
  by_cases h : i = j
  · subst h
    by_cases h2 : i < l.length
    · simp [h2]
    · simp [h2]
  · simp [h]
theorem swp_get (l : List Int) (i k j : Nat) (hi : i < l.length) (hk : k < l.length) : (swp l i k).getD j 0 = if j = k then l.getD i 0 else if j = i then l.getD k 0 else l.getD j 0 := by
  unfold swp
  rw [getD_setI, getD_setI]
  simp only [List.length_set]
  by_cases h1 : k = j
  · subst h1; simp [hk]
  · by_cases h2 : i = j
    · subst h2; simp [h1, hi, Ne.symm h1]
    · simp [h1, h2, Ne.symm h1, Ne.symm h2]
theorem tot_swp {l : List Int} (h : Tot l) {i k : Nat} (hi : i < l.length) (hk : k < l.length) : Tot (swp l i k) := by
  refine ⟨fun j hj => ?_, fun a b ha hb e => ?_⟩
  · rw [swp_len] at hj ⊢
    rw [swp_get l i k j hi hk]
    split
    · exact h.1 i hi
    · split
      · exact h.1 k hk
      · exact h.1 j hj
  · rw [swp_len] at ha hb
    rw [swp_get l i k a hi hk, swp_get l i k b hi hk] at e
    have hh := h.2
    by_cases a1 : a = k <;> by_cases b1 : b = k <;> by_cases a2 : a = i <;> by_cases b2 : b = i <;> simp only [a1, b1, a2, b2, if_true, if_false] at e <;> first | omega | skip
    all_goals first
      | (have := hh _ _ hi hb e; omega) | (have := hh _ _ hk hb e; omega) | (have := hh _ _ ha hi e; omega) | (have := hh _ _ ha hk e; omega) | (have := hh _ _ ha hb e; omega) | (have := hh _ _ hi hk e; omega) | (have := hh _ _ hk hi e; omega) | skip
    all_goals (repeat (first | (split at e))) <;> first | omega | (have := hh _ _ hi hb e; omega) | (have := hh _ _ hk hb e; omega) | (have := hh _ _ ha hi e; omega) | (have := hh _ _ ha hk e; omega) | (have := hh _ _ ha hb e; omega) | (have := hh _ _ hi hk e; omega) | (have := hh _ _ hk hi e; omega)
theorem tot_ints (n : Nat) : Tot (ints (List.range n)) := by
  have hl : (ints (List.range n)).length = n := by rw [ints_length, List.length_range]
  have hg : ∀ j, j < n → (ints (List.range n)).getD j 0 = (j : Int) := fun j hj => by rw [ints_get]; simp [List.getD_eq_getElem?_getD, hj]
  refine ⟨fun j h => ?_, fun i j hi hj e => ?_⟩
  · rw [hl] at h ⊢; rw [hg j h]; omega
  · rw [hl] at hi hj; rw [hg i hi, hg j hj] at e; omega
theorem tot_perm {pl : List Int} {n : Nat} (h : Tot pl) (hl : pl.length = n) : permOk pl n = true := by
  have mem : ∀ k ∈ pl, ∃ j, j < pl.length ∧ pl.getD j 0 = k := fun k hk => by
    obtain ⟨j, hj, e⟩ := List.mem_iff_getElem.1 hk
    exact ⟨j, hj, by rw [List.getD_eq_getElem?_getD, List.getElem?_eq_getElem hj]; exact e⟩
  refine (permOk_iff pl n).2 ⟨hl, fun k hk => ?_, ?_⟩
  · obtain ⟨j, hj, rfl⟩ := mem k hk
    have := h.1 j hj; omega
  · rw [List.nodup_iff_pairwise_ne, List.pairwise_iff_getElem]
    intro i j hi hj hij e
    have := h.2 i j hi hj (by rw [List.getD_eq_getElem?_getD, List.getElem?_eq_getElem hi, List.getD_eq_getElem?_getD, List.getElem?_eq_getElem hj]; exact e)
    omega
theorem tot_at {pl : List Int} {n : Nat} (h : Tot pl) (hl : pl.length = n) {x : Nat} (hx : x < n) : ∃ j, j < n ∧ pl.getD j 0 = (x : Int) := by
  obtain ⟨j, hj, e⟩ := List.mem_iff_getElem.1 (perm_all (tot_perm h hl) hx)
  exact ⟨j, by omega, by rw [List.getD_eq_getElem?_getD, List.getElem?_eq_getElem hj]; exact e⟩
/-- bk goes back what pl goes. -/
def Inv (pl bk : List Int) (n k : Nat) : Prop := bk.length = n ∧ ∀ j, j < k → bk.getD (pl.getD j 0).toNat 0 = (j : Int)
theorem Inv.put {pl bk : List Int} {n k : Nat} (h : Inv pl bk n k) (ht : Tot pl) (hl : pl.length = n) (hk : k < n) : Inv pl (bk.set (pl.getD k 0).toNat (k : Int)) n (k + 1) := by
  refine ⟨by rw [List.length_set]; exact h.1, fun j hj => ?_⟩
  have hr := ht.1 k (by omega)
  have hr2 := ht.1 j (by omega)
  rw [getD_setI]
  by_cases e : j = k
  · rw [e, if_pos ⟨rfl, by rw [h.1]; omega⟩]
  · rw [if_neg (fun hh => e (ht.2 j k (by omega) (by omega) (by omega))), h.2 j (by omega)]
theorem Inv.at {pl bk : List Int} {n : Nat} (h : Inv pl bk n n) (ht : Tot pl) (hl : pl.length = n) {x : Nat} (hx : x < n) : ∃ j : Nat, j < n ∧ bk.getD x 0 = (j : Int) ∧ pl.getD j 0 = (x : Int) := by
  obtain ⟨j, hj, e⟩ := tot_at ht hl hx
  have := h.2 j hj
  rw [e, Int.toNat_natCast] at this
  exact ⟨j, hj, this, e⟩
theorem Inv.tot {pl bk : List Int} {n : Nat} (h : Inv pl bk n n) (ht : Tot pl) (hl : pl.length = n) : Tot bk := by
  refine ⟨fun x hx => ?_, fun x y hx hy e => ?_⟩
  · obtain ⟨j, hj, e, _⟩ := h.at ht hl (by rw [h.1] at hx; exact hx)
    rw [e, h.1]; omega
  · rw [h.1] at hx hy
    obtain ⟨j, _, e1, e2⟩ := h.at ht hl hx
    obtain ⟨i, _, e3, e4⟩ := h.at ht hl hy
    have hji : j = i := by omega
    rw [hji, e4] at e2; omega
theorem Inv.back {pl bk : List Int} {n : Nat} (h : Inv pl bk n n) (ht : Tot pl) (hl : pl.length = n) : reL (reL (List.range n) pl) bk = List.range n := by
  apply List.ext_getElem (by rw [reL_len, h.1, List.length_range])
  intro x hx hx2
  have hxn : x < n := by rw [List.length_range] at hx2; exact hx2
  have h1 := reL_get (reL (List.range n) pl) bk (j := x) (by rw [h.1]; exact hxn)
  obtain ⟨j, hj, e1, e2⟩ := h.at ht hl hxn
  have h3 := reL_get (List.range n) pl (j := j) (by omega)
  rw [e2, Int.toNat_natCast] at h3
  rw [e1, Int.toNat_natCast, h3] at h1
  rw [List.getD_eq_getElem?_getD, List.getElem?_eq_getElem hx] at h1
  have h2 : (List.range n).getD x 0 = x := by simp [List.getD_eq_getElem?_getD, hxn]
  rw [h2] at h1
  rw [List.getElem_range]; exact h1
end Go.Proofs.Ytfkkkndigkchcaa
