/- The plain law of ArenaNever: those that live, and those that are dead. No condition. -/
import Derived.Test.YtfkkkndigkchcaaArenaRowS
namespace Go.Proofs.Ytfkkkndigkchcaa
open Go.RowKit

/-- The handle of slot s, now. -/
def AM.h (M : AM) (s : Nat) : Int := 256 * (M.g.getD s 0 : Nat) + s
/-- ls: the slots of the handles that live, in order. -/
structure NV (cap : Nat) (M : AM) (ls : List Nat) (live dead : List Int) : Prop where
  live : live = ls.map M.h
  nd : ls.Nodup
  mem : ∀ s, s ∈ ls ↔ s < cap ∧ M.u.getD s false = true
  pos : ∀ s ∈ ls, 1 ≤ M.g.getD s 0
  cnt : ls.length + M.row.length = cap
  dead : ∀ x ∈ dead, ∃ s g : Nat, x = 256 * (g : Int) + s ∧ s < cap ∧ (g < M.g.getD s 0 ∨ (g = M.g.getD s 0 ∧ M.u.getD s false = false))
/-- What is known of an arena's plain model. -/
def AM.ok (cap : Nat) (M : AM) : Prop := M.g.length = cap ∧ M.u.length = cap ∧ cap ≤ 256 ∧ (∀ s : Nat, s ∈ M.row ↔ s < cap ∧ M.u.getD s false = false) ∧ M.row.Nodup
section
variable {cap : Nat} {M : AM} {ls : List Nat} {live dead : List Int}
theorem nv_new (n : Nat) : NV n (AM.new n) [] [] [] := by
  refine ⟨rfl, List.nodup_nil, fun s => ⟨fun h => (by cases h), fun h => ?_⟩, fun s h => (by cases h), by simp [AM.new], fun x h => (by cases h)⟩
  have h2 : (List.replicate n false).getD s false = true := h.2
  rw [List.getD_eq_getElem?_getD, List.getElem?_replicate, if_pos h.1] at h2
  cases h2
theorem at_used (hM : AM.ok cap M) {s : Nat} (hs : s < cap) (hu : M.u.getD s false = true) : M.at (s : Int) = M.h s := by
  unfold AM.at AM.h
  rw [Int.toNat_natCast, if_pos ⟨by omega, by have := hM.1; omega, hu⟩]
theorem at_free (M : AM) {s : Nat} (hu : M.u.getD s false = false) : M.at (s : Int) = 0 := by
  unfold AM.at
  rw [Int.toNat_natCast, if_neg (fun h => by rw [hu] at h; cases h.2.2)]
theorem NV.len (h : NV cap M ls live dead) : live.length = ls.length := by rw [h.live, List.length_map]
theorem NV.lt (h : NV cap M ls live dead) : ls.length ≤ cap := by have := h.cnt; omega
theorem NV.get (h : NV cap M ls live dead) {i : Nat} (hi : i < ls.length) : live.getD i 0 = M.h (ls.getD i 0) := by
  rw [h.live]; simp [List.getD_eq_getElem?_getD, hi]
theorem getD_mem {ls : List Nat} {i : Nat} (hi : i < ls.length) : ls.getD i 0 ∈ ls := by
  rw [List.getD_eq_getElem?_getD, List.getElem?_eq_getElem hi]; exact List.getElem_mem hi
/-- A handle that lives: its slot, and that slot's handle. -/
theorem NV.alive (h : NV cap M ls live dead) (hM : AM.ok cap M) {i : Nat} (hi : i < ls.length) :
    ls.getD i 0 < cap ∧ 0 < live.getD i 0 ∧ M.slot (live.getD i 0) = (ls.getD i 0 : Nat) ∧ M.at ((ls.getD i 0 : Nat) : Int) = live.getD i 0 := by
  have hm := getD_mem hi
  obtain ⟨s, hs⟩ : ∃ s, ls.getD i 0 = s := ⟨_, rfl⟩
  have hg := h.get hi
  rw [hs] at hm hg ⊢
  obtain ⟨h1, h2⟩ := (h.mem s).1 hm
  have h3 := h.pos s hm
  have hat := at_used hM h1 h2
  have hc := hM.2.2.1
  have hpos : 0 < M.h s := by unfold AM.h; omega
  have hmod : M.h s % 256 = s := by unfold AM.h; omega
  rw [hg]
  refine ⟨h1, hpos, ?_, hat⟩
  unfold AM.slot
  rw [hmod, hat, if_neg (fun h => h.elim (by omega) (fun h => h rfl))]
/-- A dead one is of no slot. -/
theorem NV.gone (h : NV cap M ls live dead) (hM : AM.ok cap M) {x : Int} (hx : x ∈ dead) : M.slot x = -1 := by
  obtain ⟨s, g, rfl, hs, hg⟩ := h.dead x hx
  have hc := hM.2.2.1
  unfold AM.slot
  have hm : (256 * (g : Int) + (s : Int)) % 256 = s := by omega
  rw [hm]
  cases hu : M.u.getD s false with
  | true =>
    rw [hu] at hg
    have h1 : g < M.g.getD s 0 := hg.elim id (fun h => by cases h.2)
    rw [at_used hM hs hu, if_pos (.inr (by unfold AM.h; omega))]
  | false =>
    rw [at_free M hu]
    by_cases h0 : 256 * (g : Int) + s ≤ 0
    · rw [if_pos (.inl h0)]
    · rw [if_pos (.inr (by omega))]
/-- One is freed. -/
theorem NV.free (h : NV cap M ls live dead) (hM : AM.ok cap M) {i : Nat} (hi : i < ls.length) :
    NV cap (M.free (ls.getD i 0)) (ls.eraseIdx i) (live.take i ++ live.drop (i + 1)) (dead ++ [live.getD i 0]) := by
  have hm := getD_mem hi
  have hg := h.get hi
  have hsp : ls = ls.take i ++ ls.getD i 0 :: ls.drop (i + 1) := by
    have : ls.getD i 0 = ls[i] := by rw [List.getD_eq_getElem?_getD, List.getElem?_eq_getElem hi]; rfl
    rw [this, List.getElem_cons_drop, List.take_append_drop]
  obtain ⟨s, hs⟩ : ∃ s, ls.getD i 0 = s := ⟨_, rfl⟩
  rw [hs] at hm hg hsp ⊢
  obtain ⟨h1, h2⟩ := (h.mem s).1 hm
  have hu : ∀ t, (M.free s).u.getD t false = if t = s then false else M.u.getD t false := fun t => getD_set_bool _ _ _ _ (by rw [hM.2.1]; exact h1)
  have hnd := h.nd
  rw [hsp] at hnd
  have hns : s ∉ ls.take i ++ ls.drop (i + 1) := (List.nodup_cons.1 ((List.perm_middle).nodup_iff.1 hnd)).1
  have hnd2 : (ls.take i ++ ls.drop (i + 1)).Nodup := (List.nodup_cons.1 ((List.perm_middle).nodup_iff.1 hnd)).2
  rw [List.eraseIdx_eq_take_drop_succ]
  refine ⟨?_, hnd2, fun t => ?_, fun t ht => ?_, ?_, fun x hx => ?_⟩
  · rw [h.live, List.map_append, List.map_take, List.map_drop]; rfl
  · rw [hu t]
    have e0 : t ∈ ls ↔ t = s ∨ t ∈ ls.take i ++ ls.drop (i + 1) := by
      conv => lhs; rw [hsp]
      simp only [List.mem_append, List.mem_cons]
      constructor
      · rintro (h | h | h)
        · exact .inr (.inl h)
        · exact .inl h
        · exact .inr (.inr h)
      · rintro (h | h | h)
        · exact .inr (.inl h)
        · exact .inl h
        · exact .inr (.inr h)
    by_cases e : t = s
    · subst e
      rw [if_pos rfl]
      exact ⟨fun h => absurd h hns, fun h => (by cases h.2)⟩
    · rw [if_neg e, ← h.mem t, e0]
      exact ⟨.inr, fun h => h.resolve_left e⟩
  · have : t ∈ ls := by
      rw [hsp]
      rcases List.mem_append.1 ht with h | h
      · exact List.mem_append_left _ h
      · exact List.mem_append_right _ (List.mem_cons_of_mem _ h)
    exact h.pos t this
  · have := h.cnt
    have hl := congrArg List.length hsp
    simp only [List.length_append, List.length_cons] at hl ⊢
    show _ + (s :: M.row).length = cap
    simp only [List.length_cons]
    omega
  · rcases List.mem_append.1 hx with hx | hx
    · obtain ⟨t, g, e1, e2, e3⟩ := h.dead x hx
      refine ⟨t, g, e1, e2, ?_⟩
      rw [hu t]
      rcases e3 with e3 | e3
      · exact .inl e3
      · refine .inr ⟨e3.1, ?_⟩
        by_cases e : t = s
        · rw [if_pos e]
        · rw [if_neg e]; exact e3.2
    · have hx2 : x = live.getD i 0 := by simpa using hx
      exact ⟨s, M.g.getD s 0, hx2.trans hg, h1, .inr ⟨rfl, by rw [hu s, if_pos rfl]⟩⟩
/-- One is made. -/
theorem NV.make (h : NV cap M ls live dead) (hM : AM.ok cap M) {s : Nat} {r : List Nat} (hr : M.row = s :: r) :
    NV cap (M.make s r) (ls ++ [s]) (live ++ [256 * ((M.g.getD s 0 + 1 : Nat) : Int) + s]) dead := by
  obtain ⟨h1, h2⟩ := (hM.2.2.2.1 s).1 (by rw [hr]; simp)
  have hu : ∀ t, (M.make s r).u.getD t false = if t = s then true else M.u.getD t false := fun t => getD_set_bool _ _ _ _ (by rw [hM.2.1]; exact h1)
  have hg : ∀ t, (M.make s r).g.getD t 0 = if t = s then M.g.getD s 0 + 1 else M.g.getD t 0 := fun t => getD_set_nat _ _ _ _ (by rw [hM.1]; exact h1)
  have hns : s ∉ ls := fun h' => by rw [((h.mem s).1 h').2] at h2; cases h2
  refine ⟨?_, nodup_snoc h.nd hns, fun t => ?_, fun t ht => ?_, ?_, fun x hx => ?_⟩
  · rw [h.live, List.map_append, List.map_singleton]
    congr 1
    · refine List.map_congr_left fun t ht => ?_
      unfold AM.h
      rw [hg t, if_neg (show ¬ t = s from fun e => hns (e ▸ ht))]
    · unfold AM.h
      rw [hg s, if_pos rfl]
  · rw [hu t, List.mem_append, List.mem_singleton]
    by_cases e : t = s
    · subst e; rw [if_pos rfl]; exact ⟨fun _ => ⟨h1, rfl⟩, fun _ => .inr rfl⟩
    · rw [if_neg e, ← h.mem t]; exact ⟨fun h => h.resolve_right e, .inl⟩
  · rw [hg t]
    by_cases e : t = s
    · rw [if_pos e]; omega
    · rw [if_neg e]
      exact h.pos t ((List.mem_append.1 ht).resolve_right (fun h => e (List.mem_singleton.1 h)))
  · have := h.cnt
    rw [hr, List.length_cons] at this
    show (ls ++ [s]).length + r.length = cap
    rw [List.length_append, List.length_singleton]; omega
  · obtain ⟨t, g, e1, e2, e3⟩ := h.dead x hx
    refine ⟨t, g, e1, e2, ?_⟩
    rw [hg t, hu t]
    by_cases e : t = s
    · subst e
      rw [if_pos rfl, if_pos rfl]
      refine .inl ?_
      rcases e3 with e3 | e3 <;> omega
    · rw [if_neg e, if_neg e]; exact e3
theorem NV.full (h : NV cap M ls live dead) : M.row = [] ↔ ¬ live.length < cap := by
  have h1 := h.cnt
  rw [h.len]
  constructor
  · intro e; rw [e] at h1; simp at h1; omega
  · intro e; exact List.eq_nil_of_length_eq_zero (by omega)
end
/-- The marks of the slots: those of the first j. -/
theorem marks_zero (ls : List Nat) : ∀ s, s < 20 → ((List.replicate 20 false).getD s false = true ↔ ∃ t, t < 0 ∧ ls.getD t 0 = s) := fun s hs => by
  constructor
  · intro h
    rw [List.getD_eq_getElem?_getD, List.getElem?_replicate, if_pos hs] at h
    cases h
  · rintro ⟨t, ht, _⟩; omega
theorem marks_set {ls : List Nat} {j : Nat} {marks : List Bool} (h : ∀ s, s < 20 → (marks.getD s false = true ↔ ∃ t, t < j ∧ ls.getD t 0 = s)) (hl : marks.length = 20) {s : Nat} (hs : ls.getD j 0 = s) (hs2 : s < 20) :
    ∀ r, r < 20 → ((marks.set s true).getD r false = true ↔ ∃ t, t < j + 1 ∧ ls.getD t 0 = r) := fun r hr => by
  rw [getD_set_bool _ _ _ _ (by rw [hl]; exact hs2)]
  by_cases e : r = s
  · rw [if_pos e]
    exact ⟨fun _ => ⟨j, by omega, hs.trans e.symm⟩, fun _ => rfl⟩
  · rw [if_neg e, h r hr]
    constructor
    · rintro ⟨t, ht, h2⟩; exact ⟨t, by omega, h2⟩
    · rintro ⟨t, ht, h2⟩
      refine ⟨t, ?_, h2⟩
      by_cases e2 : t = j
      · subst e2; exact absurd (h2.symm.trans hs) e
      · omega
theorem marks_not {ls : List Nat} {j : Nat} {marks : List Bool} (h : ∀ s, s < 20 → (marks.getD s false = true ↔ ∃ t, t < j ∧ ls.getD t 0 = s)) (hnd : ls.Nodup) (hj : j < ls.length) {s : Nat} (hs : ls.getD j 0 = s) (hs2 : s < 20) : marks.getD s false = false := by
  cases e : marks.getD s false with
  | false => rfl
  | true =>
    obtain ⟨t, ht, h2⟩ := (h s hs2).1 e
    have e1 : ls[t]? = some s := by rw [← h2, List.getD_eq_getElem?_getD, List.getElem?_eq_getElem (by omega)]; rfl
    have e2 : ls[j]? = some s := by rw [← hs, List.getD_eq_getElem?_getD, List.getElem?_eq_getElem hj]; rfl
    have := (List.getElem?_inj (by omega) hnd).1 (e1.trans e2.symm)
    omega
end Go.Proofs.Ytfkkkndigkchcaa
