/- What New lays; the way back. No condition. -/
import Derived.Test.YtfkkkndigkchcaaArenaM
namespace Go.Proofs.Ytfkkkndigkchcaa
open Go.RowKit

theorem get_zeros (cs : List Int) (n : Nat) (j : Int) (hj : cs.length ≤ j) : getZ (cs ++ List.replicate n 0) j = 0 := by
  unfold getZ
  split
  · rename_i h
    rw [List.getD_eq_getElem?_getD, List.getElem?_append_right (by omega), List.getElem?_replicate]
    split <;> rfl
  · rfl
theorem newL_get (p : List Int × List (Int × Int)) (base cap : Nat) (hb : base + (2 * cap + 2) ≤ p.1.length) : ∀ i, i ≤ cap → ∀ j : Int, getZ (newL p base i).1 j = if (base : Int) + 3 ≤ j ∧ j < base + 3 + 2 * i ∧ (j - base - 3) % 2 = 0 then (j - base - 3) / 2 + 2 else getZ p.1 j := by
  intro i
  induction i with
  | zero => intro _ j; rw [if_neg (by omega)]; rfl
  | succ i ih =>
    intro hi j
    have hl := (newL_len p base i).1
    show getZ (setC (newL p base i).1 ((base : Int) + 2 + 2 * (i : Nat) + 1) ((i : Int) + 2)) j = _
    rw [get_set _ _ _ (by rw [hl]; omega), ih (by omega)]
    by_cases e : j = (base : Int) + 2 + 2 * (i : Nat) + 1
    · rw [if_pos e, if_pos (by omega)]; omega
    · rw [if_neg e]
      by_cases h : (base : Int) + 3 ≤ j ∧ j < base + 3 + 2 * i ∧ (j - base - 3) % 2 = 0
      · rw [if_pos h, if_pos (by omega)]
      · rw [if_neg h, if_neg (by omega)]
theorem rep_new (cs : List Int) (hs : List (Int × Int)) (cap : Nat) (h1 : 1 ≤ cap) : Rep (newP cs hs cap).1 cs.length cap (AM.new cap) := by
  have key : ∀ j : Int, (cs.length : Int) ≤ j → getZ (newP cs hs cap).1 j = if (cs.length : Int) + 3 ≤ j ∧ j < cs.length + 3 + 2 * (cap - 1 : Nat) ∧ (j - cs.length - 3) % 2 = 0 then (j - cs.length - 3) / 2 + 2 else if j = cs.length then 1 else 0 := fun j hj => by
    unfold newP
    rw [newL_get _ cs.length cap (by unfold setP; simp only [setC_len]; simp) (cap - 1) (by omega) j]
    by_cases h : (cs.length : Int) + 3 ≤ j ∧ j < cs.length + 3 + 2 * (cap - 1 : Nat) ∧ (j - cs.length - 3) % 2 = 0
    · rw [if_pos h, if_pos h]
    · rw [if_neg h, if_neg h]
      unfold setP
      rw [get_set _ _ _ (by simp; omega)]
      by_cases e : j = cs.length
      · rw [if_pos e, if_pos e]
      · rw [if_neg e, if_neg e, get_zeros _ _ _ hj]
  refine ⟨?_, by simp [AM.new], by simp [AM.new], ?_, ?_, ?_, ?_, List.nodup_range, ?_⟩
  · unfold newP
    rw [(newL_len _ _ _).1]
    unfold setP
    simp only [setC_len]
    simp
  · intro s hs
    rw [key _ (by omega), if_neg (by omega), if_neg (by omega)]
    show (0 : Int) = 2 * (((List.replicate cap 0).getD s 0 : Nat) : Int) + b1 ((List.replicate cap false).getD s false)
    simp [List.getD_eq_getElem?_getD, hs, b1]
  · rw [key _ (by omega), if_neg (by omega), if_pos rfl]
    show (1 : Int) = head1 (List.range cap)
    obtain ⟨n, rfl⟩ : ∃ n, cap = n + 1 := ⟨cap - 1, by omega⟩
    rw [List.range_succ_eq_map]; rfl
  · intro a s r hr
    have hr' : List.range cap = a ++ s :: r := hr
    have h2 : (List.range cap)[a.length]? = some s := by rw [hr', List.getElem?_append_right (Nat.le_refl _), Nat.sub_self]; rfl
    have hlen := congrArg List.length hr'
    simp at hlen
    have hs : s = a.length := by
      rw [List.getElem?_range (by omega)] at h2
      exact (Option.some.inj h2).symm
    rw [key _ (by omega)]
    cases r with
    | nil =>
      simp at hlen
      rw [if_neg (by omega), if_neg (by omega)]; rfl
    | cons t r =>
      have h3 : (List.range cap)[a.length + 1]? = some t := by rw [hr', List.getElem?_append_right (by omega)]; simp
      simp at hlen
      rw [List.getElem?_range (by omega)] at h3
      have ht := Option.some.inj h3
      rw [if_pos (by omega)]
      show _ = (t : Int) + 1
      omega
  · rw [key _ (by omega), if_neg (by omega), if_neg (by omega)]
    show (0 : Int) = (cap : Int) - ((List.range cap).length : Nat)
    simp
  · intro s
    show s ∈ List.range cap ↔ s < cap ∧ (List.replicate cap false).getD s false = false
    rw [List.mem_range]
    refine ⟨fun h => ⟨h, ?_⟩, fun h => h.1⟩
    simp [List.getD_eq_getElem?_getD, h]

/-- One may go back from here to all that there was. -/
def Hist (p p' : List Int × List (Int × Int)) : Prop := p.2.length ≤ p'.2.length ∧ ∀ m, m ≤ p.2.length → was p'.1 p'.2 m = was p.1 p.2 m ∧ p'.2.take m = p.2.take m
theorem Hist.refl (p : List Int × List (Int × Int)) : Hist p p := ⟨Nat.le_refl _, fun _ _ => ⟨rfl, rfl⟩⟩
theorem Hist.trans {a b c : List Int × List (Int × Int)} (h : Hist a b) (h' : Hist b c) : Hist a c :=
  ⟨Nat.le_trans h.1 h'.1, fun m hm => ⟨(h'.2 m (Nat.le_trans hm h.1)).1.trans (h.2 m hm).1, (h'.2 m (Nat.le_trans hm h.1)).2.trans (h.2 m hm).2⟩⟩
theorem Hist.back {a b : List Int × List (Int × Int)} (h : Hist a b) : was b.1 b.2 a.2.length = a.1 ∧ b.2.take a.2.length = a.2 := by
  have := h.2 a.2.length (Nat.le_refl _)
  rw [was_last, List.take_length] at this
  exact this
theorem Hist.set (p : List Int × List (Int × Int)) (i v : Int) : Hist p (setP p i v) := by
  obtain ⟨cs, hs⟩ := p
  refine ⟨(setH_len cs hs i v).1, fun m hm => ?_⟩
  show was (setC cs i v) (setH cs hs i v) m = _ ∧ (setH cs hs i v).take m = _
  unfold setC setH
  by_cases hi : 0 ≤ i ∧ i < cs.length
  · rw [if_pos hi]
    obtain ⟨n, rfl⟩ := Int.eq_ofNat_of_zero_le hi.1
    have hn : n < cs.length := by have := hi.2; omega
    have hg : getZ cs (n : Int) = cs.getD n 0 := by unfold getZ; rw [if_pos hi, Int.toNat_natCast]
    rw [Int.toNat_natCast]
    by_cases hv : getZ cs (n : Int) = v
    · rw [if_neg (fun h => h.2 hv)]
      have : cs.set n v = cs := by
        rw [← hv, hg]
        apply List.ext_getElem (by simp)
        intro j h1 h2
        by_cases e : n = j
        · subst e; simp [List.getD_eq_getElem?_getD, hn]
        · simp [e]
      rw [this]; exact ⟨rfl, rfl⟩
    · rw [if_pos ⟨hi, hv⟩, hg]
      exact ⟨was_set cs hs hn v m hm, List.take_append_of_le_length hm⟩
  · rw [if_neg hi, if_neg (fun h => hi h.1)]; exact ⟨rfl, rfl⟩
theorem Hist.make (p : List Int × List (Int × Int)) (base s : Nat) : Hist p (makeP p base s) := ((Hist.set _ _ _).trans (Hist.set _ _ _)).trans (Hist.set _ _ _)
theorem Hist.free (p : List Int × List (Int × Int)) (base s : Nat) : Hist p (freeP p base s) := (((Hist.set _ _ _).trans (Hist.set _ _ _)).trans (Hist.set _ _ _)).trans (Hist.set _ _ _)
theorem makeP_len (p : List Int × List (Int × Int)) (base s : Nat) : (makeP p base s).2.length ≤ p.2.length + 3 := by
  unfold makeP setP
  dsimp only
  exact Nat.le_trans (setH_len _ _ _ _).2 (Nat.succ_le_succ (Nat.le_trans (setH_len _ _ _ _).2 (Nat.succ_le_succ (setH_len _ _ _ _).2)))
theorem freeP_len (p : List Int × List (Int × Int)) (base s : Nat) : (freeP p base s).2.length ≤ p.2.length + 4 := by
  unfold freeP setP
  dsimp only
  exact Nat.le_trans (setH_len _ _ _ _).2 (Nat.succ_le_succ (Nat.le_trans (setH_len _ _ _ _).2 (Nat.succ_le_succ (Nat.le_trans (setH_len _ _ _ _).2 (Nat.succ_le_succ (setH_len _ _ _ _).2)))))
end Go.Proofs.Ytfkkkndigkchcaa
