/- The plain law of turning back. No condition. -/
import Derived.Test.YtcehclagipdleaaDealPlain
namespace Go.Proofs.Ytcehclagipdleaa

theorem tot_perm (N : Nat) (h1 : 1 ≤ N) (h2 : N ≤ 4096) (ds : List Int) : Tot (permOf N ds) ∧ (permOf N ds).length = N := by
  have hc : (1 : Int) ≤ (N : Int) ∧ (N : Int) ≤ 4096 := by omega
  have e : permOf N ds = prm (N - 1) (ids N) ds := by unfold permOf; rw [if_pos hc]; rfl
  rw [e]
  exact ⟨tot_prm _ _ _ (tot_ids N) (by rw [ids_len]; omega), by rw [prm_len, ids_len]⟩
theorem tot_nodup {l : List Int} (h : Tot l) : l.Nodup := by
  rw [List.nodup_iff_pairwise_ne, List.pairwise_iff_getElem]
  intro i j hi hj hij e
  have := h.2 i j hi hj (by simp [List.getD_eq_getElem?_getD, hi, hj, e])
  omega
theorem tot_onto {l : List Int} (h : Tot l) {j : Nat} (hj : j < l.length) : ∃ i, i < l.length ∧ l.getD i 0 = (j : Int) := by
  have hm := pig_all (n := l.length) rfl (tot_nodup h) (fun k hk => by
    obtain ⟨i, hi, rfl⟩ := List.getElem_of_mem hk
    have := h.1 i hi
    simpa [List.getD_eq_getElem?_getD, hi] using this) (j : Int) ((ids_mem _ _).2 ⟨by omega, by omega⟩)
  obtain ⟨i, hi, e⟩ := List.getElem_of_mem hm
  exact ⟨i, hi, by simp [List.getD_eq_getElem?_getD, hi, e]⟩
theorem turn_tot {l p : List Int} (h : Tot p) (hl : l.length = p.length) : turnOf l p = p.map (fun k => l.getD k.toNat 0) := by
  unfold turnOf
  rw [if_pos ⟨hl, by rw [hl]; exact tot_okT h⟩]
theorem map_getD (p : List Int) (f : Int → Int) (j : Nat) (hj : j < p.length) : (p.map f).getD j 0 = f (p.getD j 0) := by
  simp [List.getD_eq_getElem?_getD, hj]
/-- Turned by where each went, a turned list is the list. -/
theorem back_turn {l p b : List Int} (h : Tot p) (hl : l.length = p.length) (hb : b.length = p.length) (hbk : ∀ i, i < p.length → b.getD (p.getD i 0).toNat 0 = (i : Int)) : turnOf (turnOf l p) b = l := by
  have hat : ∀ j, j < p.length → ∃ i, i < p.length ∧ p.getD i 0 = (j : Int) ∧ b.getD j 0 = (i : Int) := fun j hj => by
    obtain ⟨i, hi, e⟩ := tot_onto h hj
    have := hbk i hi
    rw [e, Int.toNat_natCast] at this
    exact ⟨i, hi, e, this⟩
  have tb : Tot b := by
    refine ⟨fun j hj => ?_, fun i j hi hj e => ?_⟩
    · rw [hb] at hj ⊢
      obtain ⟨i, hi, _, e⟩ := hat j hj
      rw [e]; omega
    · rw [hb] at hi hj
      obtain ⟨i', _, e1, e2⟩ := hat i hi
      obtain ⟨j', _, e3, e4⟩ := hat j hj
      rw [e2, e4] at e
      have : i' = j' := by omega
      subst this
      rw [e1] at e3; omega
  rw [turn_tot h hl, turn_tot tb (by rw [List.length_map, hb])]
  refine list_ext_getD (by rw [List.length_map, hb, hl]) (fun j hj => ?_)
  rw [List.length_map, hb] at hj
  rw [map_getD _ _ _ (by omega)]
  obtain ⟨i, hi, e1, e2⟩ := hat j hj
  rw [e2, Int.toNat_natCast, map_getD _ _ _ hi, e1, Int.toNat_natCast]
/-- One that is none. -/
theorem turn_bad {l p : List Int} (hl : l.length = p.length) (h0 : 0 < p.length) : turnOf l (p.set 0 (l.length : Int)) = [] := by
  cases p with
  | nil => simp at h0
  | cons x r =>
    unfold turnOf
    rw [if_neg (fun h => ?_)]
    have := h.2
    simp [okT] at this
end Go.Proofs.Ytcehclagipdleaa
