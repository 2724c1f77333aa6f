/- The plain law of an arena: a row of free slots, generations, and what the cells of the trail hold of them. No condition. -/
import Derived.Test.YtfkkkndigkchcaaArenaD
namespace Go.Proofs.Ytfkkkndigkchcaa
open Go.RowKit

/-- An arena, plainly. -/
structure AM where
  row : List Nat
  g : List Nat
  u : List Bool
def head1 : List Nat → Int
  | [] => 0
  | s :: _ => (s : Int) + 1
def b1 : Bool → Int
  | true => 1
  | false => 0
theorem b1_true : b1 true = 1 := rfl
theorem b1_false : b1 false = 0 := rfl
def AM.new (cap : Nat) : AM := ⟨List.range cap, List.replicate cap 0, List.replicate cap false⟩
def AM.make (M : AM) (s : Nat) (r : List Nat) : AM := ⟨r, M.g.set s (M.g.getD s 0 + 1), M.u.set s true⟩
def AM.free (M : AM) (s : Nat) : AM := ⟨s :: M.row, M.g, M.u.set s false⟩
def AM.at (M : AM) (s : Int) : Int := if 0 ≤ s ∧ s < M.g.length ∧ M.u.getD s.toNat false = true then 256 * (M.g.getD s.toNat 0 : Nat) + s else 0
def AM.slot (M : AM) (h : Int) : Int := if h ≤ 0 ∨ M.at (h % 256) ≠ h then -1 else h % 256

/-- What the cells hold. -/
structure Rep (cs : List Int) (base cap : Nat) (M : AM) : Prop where
  len : base + (2 * cap + 2) ≤ cs.length
  gl : M.g.length = cap
  ul : M.u.length = cap
  gen : ∀ s : Nat, s < cap → getZ cs ((base : Int) + 2 + 2 * s) = 2 * (M.g.getD s 0 : Nat) + b1 (M.u.getD s false)
  first : getZ cs base = head1 M.row
  next : ∀ (a : List Nat) (s : Nat) (r : List Nat), M.row = a ++ s :: r → getZ cs ((base : Int) + 2 + 2 * s + 1) = head1 r
  cnt : getZ cs ((base : Int) + 1) = (cap : Int) - M.row.length
  nd : M.row.Nodup
  mem : ∀ s : Nat, s ∈ M.row ↔ s < cap ∧ M.u.getD s false = false

theorem get_set {cs : List Int} (i v j : Int) (hi : 0 ≤ i ∧ i < cs.length) : getZ (setC cs i v) j = if j = i then v else getZ cs j := by
  unfold setC getZ
  rw [if_pos hi]
  by_cases hj : 0 ≤ j ∧ j < cs.length
  · rw [if_pos (by simpa using hj), if_pos hj]
    by_cases e : j = i
    · subst e
      rw [if_pos rfl, List.getD_eq_getElem?_getD, List.getElem?_set_self (by omega)]; rfl
    · rw [if_neg e, List.getD_eq_getElem?_getD, List.getElem?_set_ne (by omega), ← List.getD_eq_getElem?_getD]
  · rw [if_neg (by simpa using hj), if_neg hj, if_neg (by omega)]
theorem getD_set_nat (l : List Nat) (i j x : Nat) (hi : i < l.length) : (l.set i x).getD j 0 = if j = i then x else l.getD j 0 := by
  rw [List.getD_eq_getElem?_getD, List.getD_eq_getElem?_getD, List.getElem?_set]
  by_cases e : j = i
  · subst e; simp [hi]
  · rw [if_neg e, if_neg (fun h => e h.symm)]
theorem getD_set_bool (l : List Bool) (i j : Nat) (x : Bool) (hi : i < l.length) : (l.set i x).getD j false = if j = i then x else l.getD j false := by
  rw [List.getD_eq_getElem?_getD, List.getD_eq_getElem?_getD, List.getElem?_set]
  by_cases e : j = i
  · subst e; simp [hi]
  · rw [if_neg e, if_neg (fun h => e h.symm)]
section
variable {cs : List Int} {hs : List (Int × Int)} {base cap : Nat} {M : AM}
theorem Rep.at (h : Rep cs base cap M) (s : Int) : atV cs base cap s = M.at s := by
  unfold atV AM.at
  rw [h.gl]
  by_cases hs : 0 ≤ s ∧ s < cap
  · rw [if_pos hs]
    have hg := h.gen s.toNat (by omega)
    rw [show ((s.toNat : Nat) : Int) = s by omega] at hg
    rw [hg]
    cases e : M.u.getD s.toNat false with
    | true =>
      rw [b1_true, if_neg (by omega), if_pos ⟨hs.1, hs.2, rfl⟩]
      omega
    | false => rw [b1_false, if_pos (by omega), if_neg (fun h => by cases h.2.2)]
  · rw [if_neg hs, if_neg (fun h => hs ⟨h.1, h.2.1⟩)]
theorem Rep.slot (h : Rep cs base cap M) (z : Int) : slotV cs base cap z = M.slot z := by
  unfold slotV AM.slot; rw [h.at]
theorem Rep.genOk (h : Rep cs base cap M) (hg : ∀ s, M.g.getD s 0 ≤ 100000000) : genOk cs base cap := fun s hs => by
  rw [h.gen s hs]
  have := hg s
  cases M.u.getD s false
  · rw [b1_false]; omega
  · rw [b1_true]; omega
theorem nodup_len : ∀ (n : Nat) (l : List Nat), l.Nodup → (∀ x ∈ l, x < n) → l.length ≤ n := by
  intro n
  induction n with
  | zero =>
    intro l _ h
    cases l with
    | nil => exact Nat.le_refl _
    | cons x l => have := h x (by simp); omega
  | succ n ih =>
    intro l hn h
    have h1 := ih (l.erase n) (hn.erase n) (fun x hx => by
      have h2 := (List.Nodup.mem_erase_iff hn).1 hx
      have := h x h2.2
      have := h2.1
      omega)
    by_cases hm : n ∈ l
    · rw [List.length_erase_of_mem hm] at h1; omega
    · rw [List.erase_of_not_mem hm] at h1; omega
theorem Rep.rowlen (h : Rep cs base cap M) : M.row.length ≤ cap := nodup_len cap M.row h.nd fun s hs => ((h.mem s).1 hs).1
/-- What Make leaves. -/
theorem Rep.make (h : Rep cs base cap M) (s : Nat) (r : List Nat) (hr : M.row = s :: r) (p : List Int × List (Int × Int)) (hp : p.1 = cs) : Rep (makeP p base s).1 base cap (M.make s r) := by
  obtain ⟨c, q⟩ := p
  obtain rfl : c = cs := hp
  have hsm := (h.mem s).1 (by rw [hr]; simp)
  have hb := h.len
  have hnd := h.nd
  rw [hr] at hnd
  have hsr : s ∉ r := (List.nodup_cons.1 hnd).1
  have hgu : (M.make s r).g.length = cap := by unfold AM.make; simp [h.gl]
  have huu : (M.make s r).u.length = cap := by unfold AM.make; simp [h.ul]
  unfold makeP setP
  dsimp only
  refine ⟨?_, hgu, huu, ?_, ?_, ?_, ?_, (List.nodup_cons.1 hnd).2, ?_⟩
  · simp only [setC_len]; exact hb
  · intro t ht
    rw [get_set _ _ _ (by simp only [setC_len]; omega), if_neg (by omega), get_set _ _ _ (by simp only [setC_len]; omega)]
    have e1 := getD_set_nat M.g s t (M.g.getD s 0 + 1) (by rw [h.gl]; exact hsm.1)
    have e2 := getD_set_bool M.u s t true (by rw [h.ul]; exact hsm.1)
    show _ = 2 * (((M.g.set s (M.g.getD s 0 + 1)).getD t 0 : Nat) : Int) + b1 ((M.u.set s true).getD t false)
    rw [e1, e2]
    by_cases e : t = s
    · subst e
      rw [if_pos rfl, if_pos rfl, if_pos rfl, get_set _ _ _ (by omega), if_neg (by omega), h.gen t ht, hsm.2, b1_true, b1_false]
      omega
    · rw [if_neg (by omega), if_neg e, if_neg e, get_set _ _ _ (by omega), if_neg (by omega), h.gen t ht]
  · rw [get_set _ _ _ (by simp only [setC_len]; omega), if_neg (by omega), get_set _ _ _ (by simp only [setC_len]; omega), if_neg (by omega), get_set _ _ _ (by omega), if_pos rfl]
    exact h.next [] s r hr
  · intro a t r' ht
    have ht' : r = a ++ t :: r' := ht
    have hm : t ∈ M.row := by rw [hr, ht']; simp
    have hts : t ≠ s := fun e => hsr (by rw [ht', ← e]; simp)
    have htc := ((h.mem t).1 hm).1
    rw [get_set _ _ _ (by simp only [setC_len]; omega), if_neg (by omega), get_set _ _ _ (by simp only [setC_len]; omega), if_neg (by omega), get_set _ _ _ (by omega), if_neg (by omega)]
    exact h.next (s :: a) t r' (by rw [hr, ht']; rfl)
  · rw [get_set _ _ _ (by simp only [setC_len]; omega), if_pos rfl, get_set _ _ _ (by simp only [setC_len]; omega), if_neg (by omega), get_set _ _ _ (by omega), if_neg (by omega), h.cnt, hr]
    show _ = (cap : Int) - (r.length : Nat)
    simp; omega
  · intro t
    have e2 := getD_set_bool M.u s t true (by rw [h.ul]; exact hsm.1)
    show t ∈ r ↔ t < cap ∧ (M.u.set s true).getD t false = false
    rw [e2]
    have hm := h.mem t
    rw [hr] at hm
    by_cases e : t = s
    · subst e
      rw [if_pos rfl]
      exact ⟨fun h => absurd h hsr, fun h => by cases h.2⟩
    · rw [if_neg e, ← hm]
      simp [e]
/-- What Free leaves. -/
theorem Rep.free (h : Rep cs base cap M) (s : Nat) (hs : s < cap) (hu : M.u.getD s false = true) (p : List Int × List (Int × Int)) (hp : p.1 = cs) : Rep (freeP p base s).1 base cap (M.free s) := by
  obtain ⟨c, q⟩ := p
  obtain rfl : c = cs := hp
  have hb := h.len
  have hsr : s ∉ M.row := fun hm => by have := ((h.mem s).1 hm).2; rw [hu] at this; cases this
  have huu : (M.free s).u.length = cap := by unfold AM.free; simp [h.ul]
  unfold freeP setP
  dsimp only
  refine ⟨?_, h.gl, huu, ?_, ?_, ?_, ?_, List.nodup_cons.2 ⟨hsr, h.nd⟩, ?_⟩
  · simp only [setC_len]; exact hb
  · intro t ht
    have e2 := getD_set_bool M.u s t false (by rw [h.ul]; exact hs)
    rw [get_set _ _ _ (by simp only [setC_len]; omega), if_neg (by omega), get_set _ _ _ (by simp only [setC_len]; omega), if_neg (by omega), get_set _ _ _ (by simp only [setC_len]; omega), if_neg (by omega), get_set _ _ _ (by omega)]
    show _ = 2 * ((M.g.getD t 0 : Nat) : Int) + b1 ((M.u.set s false).getD t false)
    rw [e2]
    by_cases e : t = s
    · subst e
      rw [if_pos rfl, if_pos rfl, h.gen t ht, hu, b1_true, b1_false]
      omega
    · rw [if_neg (by omega), if_neg e, h.gen t ht]
  · rw [get_set _ _ _ (by simp only [setC_len]; omega), if_neg (by omega), get_set _ _ _ (by simp only [setC_len]; omega), if_pos rfl]
    rfl
  · intro a t r' ht
    have ht' : s :: M.row = a ++ t :: r' := ht
    have htc : t < cap := by
      have hm : t ∈ s :: M.row := by rw [ht']; simp
      rcases List.mem_cons.1 hm with e | hm
      · rw [e]; exact hs
      · exact ((h.mem t).1 hm).1
    rw [get_set _ _ _ (by simp only [setC_len]; omega), if_neg (by omega), get_set _ _ _ (by simp only [setC_len]; omega), if_neg (by omega), get_set _ _ _ (by simp only [setC_len]; omega)]
    cases a with
    | nil =>
      injection ht' with e1 e2
      subst e1
      rw [if_pos rfl, get_set _ _ _ (by omega), if_neg (by omega), h.first, e2]
    | cons x a =>
      injection ht' with e1 e2
      have hts : t ≠ s := fun e => hsr (by rw [e2, ← e]; simp)
      rw [if_neg (by omega), get_set _ _ _ (by omega), if_neg (by omega)]
      exact h.next a t r' e2
  · rw [get_set _ _ _ (by simp only [setC_len]; omega), if_pos rfl, get_set _ _ _ (by simp only [setC_len]; omega), if_neg (by omega), get_set _ _ _ (by simp only [setC_len]; omega), if_neg (by omega), get_set _ _ _ (by omega), if_neg (by omega), h.cnt]
    show _ = (cap : Int) - ((s :: M.row).length : Nat)
    simp; omega
  · intro t
    have e2 := getD_set_bool M.u s t false (by rw [h.ul]; exact hs)
    show t ∈ s :: M.row ↔ t < cap ∧ (M.u.set s false).getD t false = false
    rw [e2, List.mem_cons, h.mem t]
    by_cases e : t = s
    · subst e; simp [hs]
    · simp [e]
end
end Go.Proofs.Ytfkkkndigkchcaa
