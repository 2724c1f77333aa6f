/- The plain law of zones: lists of slots, and what the cells of a trail hold of them. No condition. -/
import Derived.Test.YtfkkkndigkchcaaArenaN
namespace Go.Proofs.Ytfkkkndigkchcaa
open Go.RowKit

/-- Where zones stand: the first cell, how many lists, how many slots. -/
structure ZG where
  first : Nat
  zones : Nat
  slots : Nat
def ZG.lists (g : ZG) : Nat := g.first + g.zones
def ZG.homes (g : ZG) : Nat := g.lists + g.zones * g.slots
def ZG.N (g : ZG) (z : Nat) : Int := (g.first : Int) + z
def ZG.C (g : ZG) (z j : Nat) : Int := (g.lists : Int) + z * g.slots + j
def ZG.H (g : ZG) (s : Nat) : Int := (g.homes : Int) + 2 * s
/-- What they hold. -/
structure ZM where
  N : Nat → Int
  C : Nat → Nat → Int
  H : Nat → Int
  P : Nat → Int
structure Holds (g : ZG) (cs : List Int) (m : ZM) : Prop where
  len : g.homes + 2 * g.slots ≤ cs.length
  n : ∀ z, z < g.zones → getZ cs (g.N z) = m.N z
  c : ∀ z j, z < g.zones → j < g.slots → getZ cs (g.C z j) = m.C z j
  h : ∀ s, s < g.slots → getZ cs (g.H s) = m.H s
  p : ∀ s, s < g.slots → getZ cs (g.H s + 1) = m.P s
def ZM.setN (m : ZM) (z : Nat) (v : Int) : ZM := { m with N := fun x => if x = z then v else m.N x }
def ZM.setC (m : ZM) (z j : Nat) (v : Int) : ZM := { m with C := fun x y => if x = z ∧ y = j then v else m.C x y }
def ZM.setH (m : ZM) (s : Nat) (v : Int) : ZM := { m with H := fun x => if x = s then v else m.H x }
def ZM.setP (m : ZM) (s : Nat) (v : Int) : ZM := { m with P := fun x => if x = s then v else m.P x }
theorem row_lt {a b s : Nat} (h : a < b) : a * s + s ≤ b * s := by
  have := Nat.mul_le_mul_right s (Nat.succ_le_of_lt h)
  rw [Nat.succ_mul] at this; exact this
section
variable {g : ZG} {cs : List Int} {m : ZM}
theorem ZG.C_ge (g : ZG) (z j : Nat) : (g.lists : Int) ≤ g.C z j := by
  unfold ZG.C
  have : (0 : Int) ≤ (z : Int) * g.slots := by rw [← Int.natCast_mul]; omega
  omega
theorem ZG.C_lt {z j : Nat} (hz : z < g.zones) (hj : j < g.slots) : g.C z j < g.homes := by
  have := row_lt (s := g.slots) hz
  unfold ZG.C ZG.homes
  rw [← Int.natCast_mul]
  omega
theorem ZG.C_inj {z j x y : Nat} (hj : j < g.slots) (hy : y < g.slots) (h : g.C z j = g.C x y) : z = x ∧ j = y := by
  unfold ZG.C at h
  rw [← Int.natCast_mul, ← Int.natCast_mul] at h
  rcases Nat.lt_trichotomy z x with e | e | e
  · have := row_lt (s := g.slots) e; omega
  · subst e; exact ⟨rfl, by omega⟩
  · have := row_lt (s := g.slots) e; omega
theorem ZG.lists_le (g : ZG) : g.lists ≤ g.homes := by unfold ZG.homes; omega
theorem ZG.N_in {z : Nat} (hz : z < g.zones) : 0 ≤ g.N z ∧ g.N z < g.lists := by unfold ZG.N ZG.lists; omega
theorem ZG.H_ge (g : ZG) (s : Nat) : (g.homes : Int) ≤ g.H s := by unfold ZG.H; omega
theorem ZG.H_lt {s : Nat} (hs : s < g.slots) : g.H s + 1 < g.homes + 2 * g.slots := by unfold ZG.H; omega
theorem Holds.setN' (h : Holds g cs m) {z : Nat} (hz : z < g.zones) (v : Int) : Holds g (setC cs (g.N z) v) (m.setN z v) := by
  have hl := h.len
  have h1 := ZG.N_in hz
  have h2 := g.lists_le
  have hi : 0 ≤ g.N z ∧ g.N z < cs.length := by omega
  refine ⟨by rw [setC_len]; exact hl, fun x hx => ?_, fun x y hx hy => ?_, fun s hs => ?_, fun s hs => ?_⟩
  · rw [get_set _ _ _ hi]
    show _ = if x = z then v else m.N x
    by_cases e : x = z
    · rw [if_pos e, if_pos (by rw [e])]
    · rw [if_neg e, if_neg (by unfold ZG.N; omega)]; exact h.n x hx
  · rw [get_set _ _ _ hi, if_neg (by have := g.C_ge x y; omega)]; exact h.c x y hx hy
  · rw [get_set _ _ _ hi, if_neg (by have := g.H_ge s; omega)]; exact h.h s hs
  · rw [get_set _ _ _ hi, if_neg (by have := g.H_ge s; omega)]; exact h.p s hs
theorem Holds.setC' (h : Holds g cs m) {z j : Nat} (hz : z < g.zones) (hj : j < g.slots) (v : Int) : Holds g (setC cs (g.C z j) v) (m.setC z j v) := by
  have hl := h.len
  have h1 := g.C_ge z j
  have h2 := ZG.C_lt hz hj
  have hi : 0 ≤ g.C z j ∧ g.C z j < cs.length := by omega
  refine ⟨by rw [setC_len]; exact hl, fun x hx => ?_, fun x y hx hy => ?_, fun s hs => ?_, fun s hs => ?_⟩
  · rw [get_set _ _ _ hi, if_neg (by have := ZG.N_in hx; omega)]; exact h.n x hx
  · rw [get_set _ _ _ hi]
    show _ = if x = z ∧ y = j then v else m.C x y
    by_cases e : x = z ∧ y = j
    · rw [if_pos e, if_pos (by rw [e.1, e.2])]
    · rw [if_neg e, if_neg (fun he => e (ZG.C_inj hy hj he))]; exact h.c x y hx hy
  · rw [get_set _ _ _ hi, if_neg (by have := g.H_ge s; omega)]; exact h.h s hs
  · rw [get_set _ _ _ hi, if_neg (by have := g.H_ge s; omega)]; exact h.p s hs
theorem Holds.setH' (h : Holds g cs m) {s : Nat} (hs : s < g.slots) (v : Int) : Holds g (setC cs (g.H s) v) (m.setH s v) := by
  have hl := h.len
  have h1 := g.H_ge s
  have h2 := ZG.H_lt hs
  have h3 := g.lists_le
  have hi : 0 ≤ g.H s ∧ g.H s < cs.length := by omega
  refine ⟨by rw [setC_len]; exact hl, fun x hx => ?_, fun x y hx hy => ?_, fun x hx => ?_, fun x hx => ?_⟩
  · rw [get_set _ _ _ hi, if_neg (by have := ZG.N_in hx; omega)]; exact h.n x hx
  · rw [get_set _ _ _ hi, if_neg (by have := ZG.C_lt hx hy; omega)]; exact h.c x y hx hy
  · rw [get_set _ _ _ hi]
    show _ = if x = s then v else m.H x
    by_cases e : x = s
    · rw [if_pos e, if_pos (by rw [e])]
    · rw [if_neg e, if_neg (by unfold ZG.H; omega)]; exact h.h x hx
  · rw [get_set _ _ _ hi, if_neg (by unfold ZG.H; omega)]; exact h.p x hx
theorem Holds.setP' (h : Holds g cs m) {s : Nat} (hs : s < g.slots) (v : Int) : Holds g (setC cs (g.H s + 1) v) (m.setP s v) := by
  have hl := h.len
  have h1 := g.H_ge s
  have h2 := ZG.H_lt hs
  have h3 := g.lists_le
  have hi : 0 ≤ g.H s + 1 ∧ g.H s + 1 < cs.length := by omega
  refine ⟨by rw [setC_len]; exact hl, fun x hx => ?_, fun x y hx hy => ?_, fun x hx => ?_, fun x hx => ?_⟩
  · rw [get_set _ _ _ hi, if_neg (by have := ZG.N_in hx; omega)]; exact h.n x hx
  · rw [get_set _ _ _ hi, if_neg (by have := ZG.C_lt hx hy; omega)]; exact h.c x y hx hy
  · rw [get_set _ _ _ hi, if_neg (by unfold ZG.H; omega)]; exact h.h x hx
  · rw [get_set _ _ _ hi]
    show _ = if x = s then v else m.P x
    by_cases e : x = s
    · rw [if_pos e, if_pos (by rw [e])]
    · rw [if_neg e, if_neg (by unfold ZG.H; omega)]; exact h.p x hx
/-- A slot laid at a place. -/
def ZM.lay (m : ZM) (z j s : Nat) : ZM := ((m.setC z j s).setH s ((z : Int) + 1)).setP s j
/-- The lists. -/
structure ZRep (g : ZG) (L : List (List Nat)) (m : ZM) : Prop where
  zl : L.length = g.zones
  sl : ∀ z s, s ∈ L.getD z [] → s < g.slots
  cnt : ∀ z, z < g.zones → m.N z = ((L.getD z []).length : Nat)
  cell : ∀ z j, z < g.zones → j < (L.getD z []).length → m.C z j = ((L.getD z []).getD j 0 : Nat)
  home : ∀ z j, z < g.zones → j < (L.getD z []).length → m.H ((L.getD z []).getD j 0) = (z : Int) + 1 ∧ m.P ((L.getD z []).getD j 0) = j
  free : ∀ s, s < g.slots → (∀ z, s ∉ L.getD z []) → m.H s = 0
end
theorem getD_mem' {l : List Nat} {j : Nat} (h : j < l.length) : l.getD j 0 ∈ l := by
  rw [List.getD_eq_getElem?_getD, List.getElem?_eq_getElem h]; exact List.getElem_mem h
theorem mem_getD' {l : List Nat} {s : Nat} (h : s ∈ l) : ∃ j, j < l.length ∧ l.getD j 0 = s := by
  obtain ⟨j, hj, e⟩ := List.mem_iff_getElem.1 h
  exact ⟨j, hj, by rw [List.getD_eq_getElem?_getD, List.getElem?_eq_getElem hj]; exact e⟩
theorem nodup_getD {l : List Nat} (h : ∀ i j, i < l.length → j < l.length → l.getD i 0 = l.getD j 0 → i = j) : l.Nodup := by
  rw [List.nodup_iff_pairwise_ne, List.pairwise_iff_getElem]
  intro i j hi hj hij e
  have := h i j hi hj (by rw [List.getD_eq_getElem?_getD, List.getElem?_eq_getElem hi, List.getD_eq_getElem?_getD, List.getElem?_eq_getElem hj]; exact e)
  omega
theorem getD_inj {l : List Nat} (hn : l.Nodup) {i j : Nat} (hi : i < l.length) (hj : j < l.length) (e : l.getD i 0 = l.getD j 0) : i = j := by
  rw [List.getD_eq_getElem?_getD, List.getElem?_eq_getElem hi, List.getD_eq_getElem?_getD, List.getElem?_eq_getElem hj] at e
  exact (List.getElem_inj hn).1 e
section
variable {g : ZG} {cs : List Int} {m m0 m' : ZM} {L : List (List Nat)} {z a b : Nat} {l' : List Nat}
theorem ZRep.out (h : ZRep g L m) {z s : Nat} (hs : s ∈ L.getD z []) : z < g.zones := by
  rw [← h.zl]
  refine Classical.byContradiction fun hz => ?_
  rw [List.getD_eq_getElem?_getD, List.getElem?_eq_none (by omega)] at hs
  cases hs
theorem ZRep.nodup (h : ZRep g L m) (z : Nat) : (L.getD z []).Nodup := by
  refine nodup_getD fun i j hi hj e => ?_
  have hz := h.out (getD_mem' hi)
  have h1 := (h.home z i hz hi).2
  have h2 := (h.home z j hz hj).2
  rw [e] at h1; omega
theorem ZRep.one (h : ZRep g L m) {x z s : Nat} (hx : s ∈ L.getD x []) (hz : s ∈ L.getD z []) : x = z := by
  obtain ⟨i, hi, rfl⟩ := mem_getD' hx
  obtain ⟨j, hj, e⟩ := mem_getD' hz
  have h1 := (h.home x i (h.out hx) hi).1
  have h2 := (h.home z j (h.out hz) hj).1
  rw [e] at h2; omega
theorem ZRep.le (h : ZRep g L m) (z : Nat) : (L.getD z []).length ≤ g.slots := nodup_len g.slots _ (h.nodup z) fun s hs => h.sl z s hs
/-- m is m0, the places a to b of the list z laid as in l'. -/
structure Laid (m0 m : ZM) (z : Nat) (l' : List Nat) (a b : Nat) : Prop where
  n : m.N = m0.N
  c : ∀ x y, m.C x y = if x = z ∧ a ≤ y ∧ y < b then (l'.getD y 0 : Int) else m0.C x y
  same : ∀ s, (∀ y, a ≤ y → y < b → l'.getD y 0 ≠ s) → m.H s = m0.H s ∧ m.P s = m0.P s
  home : ∀ y, a ≤ y → y < b → m.H (l'.getD y 0) = (z : Int) + 1 ∧ m.P (l'.getD y 0) = y
theorem Laid.nil (m0 : ZM) (z : Nat) (l' : List Nat) (a : Nat) : Laid m0 m0 z l' a a :=
  ⟨rfl, fun x y => by rw [if_neg (by omega)], fun _ _ => ⟨rfl, rfl⟩, fun y h1 h2 => by omega⟩
theorem Laid.up (h : Laid m0 m z l' a b) (hn : l'.Nodup) (hab : a ≤ b) (hb : b < l'.length) : Laid m0 (m.lay z b (l'.getD b 0)) z l' a (b + 1) := by
  refine ⟨h.n, fun x y => ?_, fun s hs => ?_, fun y h1 h2 => ?_⟩
  · show (if x = z ∧ y = b then ((l'.getD b 0 : Nat) : Int) else m.C x y) = _
    by_cases e : x = z ∧ y = b
    · rw [if_pos e, if_pos (by omega), e.2]
    · rw [if_neg e, h.c]
      by_cases e2 : x = z ∧ a ≤ y ∧ y < b
      · rw [if_pos e2, if_pos (by omega)]
      · rw [if_neg e2, if_neg (by omega)]
  · have h1 := h.same s fun y hy hy2 => hs y hy (by omega)
    have h2 := hs b hab (by omega)
    exact ⟨(if_neg (fun e => h2 e.symm)).trans h1.1, (if_neg (fun e => h2 e.symm)).trans h1.2⟩
  · by_cases e : y = b
    · subst e; exact ⟨if_pos rfl, if_pos rfl⟩
    · have h3 := h.home y h1 (by omega)
      have hne : l'.getD y 0 ≠ l'.getD b 0 := fun he => e (getD_inj hn (by omega) hb he)
      exact ⟨(if_neg hne).trans h3.1, (if_neg hne).trans h3.2⟩
theorem Laid.down (h : Laid m0 m z l' (a + 1) b) (hn : l'.Nodup) (hab : a < b) (hb : b ≤ l'.length) : Laid m0 (m.lay z a (l'.getD a 0)) z l' a b := by
  refine ⟨h.n, fun x y => ?_, fun s hs => ?_, fun y h1 h2 => ?_⟩
  · show (if x = z ∧ y = a then ((l'.getD a 0 : Nat) : Int) else m.C x y) = _
    by_cases e : x = z ∧ y = a
    · rw [if_pos e, if_pos (by omega), e.2]
    · rw [if_neg e, h.c]
      by_cases e2 : x = z ∧ a + 1 ≤ y ∧ y < b
      · rw [if_pos e2, if_pos (by omega)]
      · rw [if_neg e2, if_neg (by omega)]
  · have h1 := h.same s fun y hy hy2 => hs y (by omega) hy2
    have h2 := hs a (Nat.le_refl _) hab
    exact ⟨(if_neg (fun e => h2 e.symm)).trans h1.1, (if_neg (fun e => h2 e.symm)).trans h1.2⟩
  · by_cases e : y = a
    · subst e; exact ⟨if_pos rfl, if_pos rfl⟩
    · have h3 := h.home y (by omega) h2
      have hne : l'.getD y 0 ≠ l'.getD a 0 := fun he => e (getD_inj hn (by omega) (by omega) he)
      exact ⟨(if_neg hne).trans h3.1, (if_neg hne).trans h3.2⟩
theorem getD_setL (L : List (List Nat)) (z x : Nat) (l : List Nat) (hz : z < L.length) : (L.set z l).getD x [] = if x = z then l else L.getD x [] := by
  rw [List.getD_eq_getElem?_getD, List.getD_eq_getElem?_getD, List.getElem?_set]
  by_cases e : x = z
  · subst e; simp [hz]
  · rw [if_neg e, if_neg (fun h => e h.symm)]
/-- The list z is l' now. -/
theorem ZRep.fin (h : ZRep g L m0) (hz : z < g.zones) (hn : l'.Nodup) (hs' : ∀ s ∈ l', s < g.slots) (hl : Laid m0 m z l' a b) (hb : b ≤ l'.length)
    (hk : ∀ j, j < l'.length → (j < a ∨ b ≤ j) → j < (L.getD z []).length ∧ (L.getD z []).getD j 0 = l'.getD j 0) (hin : ∀ s ∈ l', s ∈ L.getD z [] ∨ ∀ x, s ∉ L.getD x [])
    (hN : ∀ x, x < g.zones → m'.N x = if x = z then (l'.length : Int) else m0.N x) (hC : m'.C = m.C) (hH : ∀ s, (s ∈ l' ∨ s ∉ L.getD z []) → m'.H s = m.H s ∧ m'.P s = m.P s) (h0 : ∀ s, s ∈ L.getD z [] → s ∉ l' → m'.H s = 0) :
    ZRep g (L.set z l') m' := by
  have hzL : z < L.length := by rw [h.zl]; exact hz
  have laid : ∀ y, a ≤ y → y < b → l'.getD y 0 ∈ l' := fun y _ h2 => getD_mem' (by omega)
  refine ⟨by rw [List.length_set]; exact h.zl, fun x s hs => ?_, fun x hx => ?_, fun x j hx hj => ?_, fun x j hx hj => ?_, fun s hs hno => ?_⟩
  · rw [getD_setL _ _ _ _ hzL] at hs
    by_cases e : x = z
    · rw [if_pos e] at hs; exact hs' s hs
    · rw [if_neg e] at hs; exact h.sl x s hs
  · rw [getD_setL _ _ _ _ hzL, hN x hx]
    by_cases e : x = z
    · rw [if_pos e, if_pos e]
    · rw [if_neg e, if_neg e]; exact h.cnt x hx
  · rw [getD_setL _ _ _ _ hzL] at hj ⊢
    rw [hC, hl.c]
    by_cases e : x = z
    · subst e
      rw [if_pos rfl] at hj ⊢
      by_cases e2 : a ≤ j ∧ j < b
      · rw [if_pos ⟨rfl, e2⟩]
      · rw [if_neg (fun h => e2 h.2)]
        have h3 := hk j hj (by omega)
        rw [h.cell x j hx h3.1, h3.2]
    · rw [if_neg e] at hj ⊢
      rw [if_neg (fun h => e h.1)]; exact h.cell x j hx hj
  · rw [getD_setL _ _ _ _ hzL] at hj ⊢
    by_cases e : x = z
    · subst e
      rw [if_pos rfl] at hj ⊢
      have h4 := hH (l'.getD j 0) (.inl (getD_mem' hj))
      rw [h4.1, h4.2]
      by_cases e2 : a ≤ j ∧ j < b
      · exact hl.home j e2.1 e2.2
      · have h3 := hk j hj (by omega)
        have h5 := hl.same (l'.getD j 0) fun y h1 h2 he => by
          have := getD_inj hn (by omega) hj he
          omega
        rw [h5.1, h5.2, ← h3.2]
        exact h.home x j hx h3.1
    · rw [if_neg e] at hj ⊢
      have hm := getD_mem' hj
      have hnz : (L.getD x []).getD j 0 ∉ L.getD z [] := fun h1 => e (h.one hm h1)
      have h4 := hH _ (.inr hnz)
      have h5 := hl.same ((L.getD x []).getD j 0) fun y h1 h2 he => by
        have := hin _ (laid y h1 h2)
        rw [he] at this
        exact this.elim hnz (fun h => h x hm)
      rw [h4.1, h4.2, h5.1, h5.2]
      exact h.home x j hx hj
  · have hsl : s ∉ l' := by
      have := hno z
      rw [getD_setL _ _ _ _ hzL, if_pos rfl] at this
      exact this
    by_cases hsz : s ∈ L.getD z []
    · exact h0 s hsz hsl
    · rw [(hH s (.inr hsz)).1, (hl.same s fun y h1 h2 he => hsl (by rw [← he]; exact laid y h1 h2)).1]
      refine h.free s hs fun x hx => ?_
      by_cases e : x = z
      · rw [e] at hx; exact hsz hx
      · have := hno x
        rw [getD_setL _ _ _ _ hzL, if_neg e] at this
        exact this hx
/-- Nothing is in the lists. -/
theorem ZRep.zero (g : ZG) : ZRep g (List.replicate g.zones []) ⟨fun _ => 0, fun _ _ => 0, fun _ => 0, fun _ => 0⟩ := by
  have e : ∀ z, (List.replicate g.zones ([] : List Nat)).getD z [] = [] := fun z => by
    rw [List.getD_eq_getElem?_getD, List.getElem?_replicate]; split <;> rfl
  refine ⟨by simp, fun z s hs => ?_, fun z _ => ?_, fun z j _ hj => ?_, fun z j _ hj => ?_, fun _ _ _ => rfl⟩
  · rw [e] at hs; cases hs
  · rw [e]; rfl
  · rw [e] at hj; cases hj
  · rw [e] at hj; cases hj
theorem Holds.zero (cs : List Int) (zones slots n : Nat) (hn : n = zones + zones * slots + 2 * slots) : Holds ⟨cs.length, zones, slots⟩ (cs ++ List.replicate n 0) ⟨fun _ => 0, fun _ _ => 0, fun _ => 0, fun _ => 0⟩ := by
  refine ⟨?_, fun z _ => get_zeros _ _ _ ?_, fun z j _ _ => get_zeros _ _ _ ?_, fun s _ => get_zeros _ _ _ ?_, fun s _ => get_zeros _ _ _ ?_⟩
  · unfold ZG.homes ZG.lists; simp; omega
  · unfold ZG.N; dsimp only; omega
  · have := ZG.C_ge ⟨cs.length, zones, slots⟩ z j
    unfold ZG.lists at this; dsimp only at this; omega
  · unfold ZG.H ZG.homes ZG.lists; dsimp only; omega
  · unfold ZG.H ZG.homes ZG.lists; dsimp only; omega
/-- Put, Take, Reorder of a list. -/
def putL (l : List Nat) (at' s : Nat) : List Nat := l.take at' ++ s :: l.drop at'
theorem putL_len {l : List Nat} {i s : Nat} (hi : i ≤ l.length) : (putL l i s).length = l.length + 1 := by unfold putL; simp; omega
theorem putL_get {l : List Nat} {i s : Nat} (hi : i ≤ l.length) (j : Nat) : (putL l i s).getD j 0 = if j < i then l.getD j 0 else if j = i then s else l.getD (j - 1) 0 := by
  unfold putL
  rw [List.getD_eq_getElem?_getD, List.getElem?_append]
  have hti : (l.take i).length = i := by simp; omega
  rw [hti]
  by_cases h1 : j < i
  · rw [if_pos h1, if_pos h1, List.getElem?_take_of_lt h1, List.getD_eq_getElem?_getD]
  · rw [if_neg h1, if_neg h1]
    by_cases h2 : j = i
    · rw [if_pos h2, h2, Nat.sub_self]; rfl
    · rw [if_neg h2, show j - i = (j - 1 - i) + 1 by omega, List.getElem?_cons_succ, List.getElem?_drop, show i + (j - 1 - i) = j - 1 by omega, ← List.getD_eq_getElem?_getD]
theorem putL_mem {l : List Nat} {i s t : Nat} : t ∈ putL l i s ↔ t = s ∨ t ∈ l := by
  unfold putL
  rw [List.mem_append, List.mem_cons]
  constructor
  · rintro (h | h | h)
    · exact .inr (List.mem_of_mem_take h)
    · exact .inl h
    · exact .inr (List.mem_of_mem_drop h)
  · rintro (h | h)
    · exact .inr (.inl h)
    · rw [← List.take_append_drop i l, List.mem_append] at h
      exact h.elim .inl (fun h => .inr (.inr h))
theorem putL_nodup {l : List Nat} {i s : Nat} (hn : l.Nodup) (hs : s ∉ l) : (putL l i s).Nodup := by
  unfold putL
  have h1 : (l.take i ++ l.drop i).Nodup := by rw [List.take_append_drop]; exact hn
  rw [List.nodup_append] at h1 ⊢
  refine ⟨h1.1, List.nodup_cons.2 ⟨fun h => hs (List.mem_of_mem_drop h), h1.2.1⟩, fun x hx y hy e => ?_⟩
  rcases List.mem_cons.1 hy with h | h
  · exact hs (by rw [← h, ← e]; exact List.mem_of_mem_take hx)
  · exact h1.2.2 x hx y h e
def takeL (l : List Nat) (i : Nat) : List Nat := l.take i ++ l.drop (i + 1)
theorem takeL_len {l : List Nat} {i : Nat} (hi : i < l.length) : (takeL l i).length = l.length - 1 := by unfold takeL; simp; omega
theorem takeL_get {l : List Nat} {i : Nat} (hi : i < l.length) (j : Nat) : (takeL l i).getD j 0 = if j < i then l.getD j 0 else l.getD (j + 1) 0 := by
  unfold takeL
  rw [List.getD_eq_getElem?_getD, List.getElem?_append]
  have hti : (l.take i).length = i := by simp; omega
  rw [hti]
  by_cases h1 : j < i
  · rw [if_pos h1, if_pos h1, List.getElem?_take_of_lt h1, List.getD_eq_getElem?_getD]
  · rw [if_neg h1, if_neg h1, List.getElem?_drop, show i + 1 + (j - i) = j + 1 by omega, ← List.getD_eq_getElem?_getD]
theorem takeL_sub {l : List Nat} {i : Nat} {t : Nat} (h : t ∈ takeL l i) : t ∈ l := by
  unfold takeL at h
  rcases List.mem_append.1 h with h | h
  · exact List.mem_of_mem_take h
  · exact List.mem_of_mem_drop h
theorem takeL_put {l : List Nat} {i : Nat} (hi : i < l.length) : l = putL (takeL l i) i (l.getD i 0) := by
  unfold putL takeL
  have hti : (l.take i).length = i := by simp; omega
  rw [List.take_append_of_le_length (by omega), List.take_of_length_le (by omega), List.drop_append_of_le_length (by omega), List.drop_of_length_le (by omega), List.nil_append]
  rw [List.getD_eq_getElem?_getD, List.getElem?_eq_getElem hi]
  show l = l.take i ++ l[i] :: l.drop (i + 1)
  rw [List.getElem_cons_drop, List.take_append_drop]
theorem takeL_nodup {l : List Nat} {i : Nat} (hn : l.Nodup) : (takeL l i).Nodup := by
  unfold takeL
  refine List.nodup_append.2 ⟨hn.sublist (List.take_sublist _ _), hn.sublist (List.drop_sublist _ _), fun x hx y hy e => ?_⟩
  have h1 : (l.take i ++ l.drop i).Nodup := by rw [List.take_append_drop]; exact hn
  refine (List.nodup_append.1 h1).2.2 x hx y ?_ e
  have : l.drop (i + 1) = (l.drop i).drop 1 := by rw [List.drop_drop]
  rw [this] at hy
  exact List.mem_of_mem_drop hy
theorem takeL_not {l : List Nat} {i : Nat} (hn : l.Nodup) (hi : i < l.length) : l.getD i 0 ∉ takeL l i := by
  have h := hn
  rw [takeL_put hi] at h
  unfold putL at h
  have h1 := List.nodup_append.1 h
  intro hm
  rw [← List.take_append_drop i (takeL l i), List.mem_append] at hm
  rcases hm with hm | hm
  · exact h1.2.2 _ hm _ (by simp) rfl
  · exact (List.nodup_cons.1 h1.2.1).1 hm
theorem takeL_mem {l : List Nat} {i t : Nat} (hi : i < l.length) (ht : t ∈ l) : t = l.getD i 0 ∨ t ∈ takeL l i := by
  rw [takeL_put hi, putL_mem] at ht; exact ht
end
end Go.Proofs.Ytfkkkndigkchcaa
