/- What ArenaRow holds: an arena of 20 slots, and the row of those that were freed. No condition. -/
import Derived.Test.YtfkkkndigkchcaaArenaW
import Derived.Test.YtfkkkndigkchcaaTrailBk
namespace Go.Proofs.Ytfkkkndigkchcaa
open Go.RowKit
attribute [local irreducible] Calls

/-- Those that were made again (done), those that were freed (pend, the last one first), those that were never made (from fresh on). -/
structure RM (done pend : List Nat) (fresh : Nat) (M : AM) : Prop where
  row : M.row = pend ++ List.range' fresh (20 - fresh)
  g : ∀ s, s < 20 → M.g.getD s 0 = if s ∈ done then 2 else if s < fresh then 1 else 0
theorem rm_new : RM [] [] 0 (AM.new 20) := ⟨by decide, fun s hs => by
  show (List.replicate 20 0).getD s 0 = _
  rw [List.getD_eq_getElem?_getD, List.getElem?_replicate, if_pos hs, if_neg (by simp), if_neg (by omega)]; rfl⟩
theorem range'_head {f : Nat} (h : f < 20) : List.range' f (20 - f) = f :: List.range' (f + 1) (20 - (f + 1)) := by
  rw [show 20 - f = (20 - (f + 1)) + 1 by omega, List.range'_succ]
section
variable {done pend r : List Nat} {fresh s : Nat} {M : AM}
theorem RM.mkFresh (h : RM done [] fresh M) (hf : fresh < 20) (hl : M.g.length = 20) (hd : fresh ∉ done) : M.row = fresh :: List.range' (fresh + 1) (20 - (fresh + 1)) ∧ M.g.getD fresh 0 = 0 ∧ RM done [] (fresh + 1) (M.make fresh (List.range' (fresh + 1) (20 - (fresh + 1)))) := by
  have hr := h.row
  rw [List.nil_append, range'_head hf] at hr
  have hg := h.g fresh hf
  rw [if_neg hd, if_neg (by omega)] at hg
  refine ⟨hr, hg, rfl, fun t ht => ?_⟩
  show (M.g.set fresh (M.g.getD fresh 0 + 1)).getD t 0 = _
  rw [getD_set_nat _ _ _ _ (by omega), hg, h.g t ht]
  by_cases e : t = fresh
  · subst e; rw [if_pos rfl, if_neg hd, if_pos (by omega)]
  · rw [if_neg e]
    by_cases h2 : t ∈ done
    · rw [if_pos h2, if_pos h2]
    · rw [if_neg h2, if_neg h2]
      by_cases h3 : t < fresh
      · rw [if_pos h3, if_pos (by omega)]
      · rw [if_neg h3, if_neg (by omega)]
theorem RM.mkPend (h : RM done (s :: r) fresh M) (hs : s < fresh) (hf : fresh ≤ 20) (hl : M.g.length = 20) (hd : s ∉ done) : M.row = s :: (r ++ List.range' fresh (20 - fresh)) ∧ M.g.getD s 0 = 1 ∧ RM (s :: done) r fresh (M.make s (r ++ List.range' fresh (20 - fresh))) := by
  have hg := h.g s (by omega)
  rw [if_neg hd, if_pos hs] at hg
  refine ⟨h.row, hg, rfl, fun t ht => ?_⟩
  show (M.g.set s (M.g.getD s 0 + 1)).getD t 0 = _
  rw [getD_set_nat _ _ _ _ (by omega), hg, h.g t ht]
  by_cases e : t = s
  · subst e; rw [if_pos rfl, if_pos (by simp)]
  · rw [if_neg e]
    by_cases h2 : t ∈ done
    · rw [if_pos h2, if_pos (by simp [h2])]
    · have hm : t ∉ s :: done := by simp [e, h2]
      rw [if_neg h2, if_neg hm]
theorem RM.free (h : RM done pend fresh M) : RM done (s :: pend) fresh (M.free s) := ⟨by show s :: M.row = _; rw [h.row]; rfl, h.g⟩
end
theorem own_any {w : World} {base : Nat} {e : TypeId} {size n : Nat} {v : Value} {xs : List Value} (h : w.ownsRow base e size v n xs) : ∃ x cap, v = .slice x n cap := by
  rcases h.2 with ⟨hv, h0⟩ | ⟨g, cap, _, hv, _⟩
  · exact ⟨none, 0, by rw [h0]; exact hv⟩
  · exact ⟨_, cap, hv⟩
theorem nodup_snoc {l : List Nat} {k : Nat} (h : l.Nodup) (hk : k ∉ l) : (l ++ [k]).Nodup := by
  refine List.nodup_append.2 ⟨h, by simp, fun a ha b hb e => hk ?_⟩
  have h1 : b = k := by simpa using hb
  rw [← h1, ← e]; exact ha
theorem all_snoc {l : List Nat} {k n : Nat} (h : ∀ s ∈ l, s < n) (hk : k < n) : ∀ s ∈ l ++ [k], s < n := fun s hs => by
  rcases List.mem_append.1 hs with h1 | h1
  · exact h s h1
  · have : s = k := by simpa using h1
    omega
/-- An arena of 20, its slots so; and the row of the colour 2. -/
def RowSt (w wr : World) (A T : Nat) (done pend : List Nat) (fresh kb : Nat) (lv : Value) (l : List Nat) : Prop :=
  ∃ col Bb Ba q M, AS w wr col 1 A Bb Ba T 0 20 kb q M ∧ RM done pend fresh M ∧ RowC wr col 2 w.heap.size 3 1 lv l.length (l.map fun n : Nat => Value.int .i64 (n : Int))
section
variable {w wr w' : World} {A T fresh kb s : Nat} {done pend r l : List Nat} {lv : Value}
theorem RowSt.bel (h : RowSt w wr A T done pend fresh kb lv l) : Below w.heap.size w wr := by obtain ⟨col, Bb, Ba, q, M, h1, _⟩ := h; exact h1.bel
theorem RowSt.own (h : RowSt w wr A T done pend fresh kb lv l) : wr.ownsRow w.heap.size 3 1 lv l.length (l.map fun n : Nat => Value.int .i64 (n : Int)) := by obtain ⟨col, Bb, Ba, q, M, h1, h2, h3⟩ := h; exact h3.1
theorem RowSt.below (h : RowSt w wr A T done pend fresh kb lv l) (hb : Below wr.heap.size wr w') : RowSt w w' A T done pend fresh kb lv l := by
  obtain ⟨col, Bb, Ba, q, M, h1, h2, h3⟩ := h
  exact ⟨_, Bb, Ba, q, M, h1.below hb 0, h2, h3.made 0 hb⟩
theorem RowSt.of {col : Nat → Nat} {Bb Ba : Nat} {q : List Int × List (Int × Int)} {M : AM} {n : Nat} {d2 p2 : List Nat} {f2 : Nat} (hn : ASN w wr w' col 1 A Bb Ba T 0 20 n q M) (h2 : RM d2 p2 f2 M) (h3 : RowC wr col 2 w.heap.size 3 1 lv l.length (l.map fun n : Nat => Value.int .i64 (n : Int))) : RowSt w w' A T d2 p2 f2 n lv l :=
  ⟨_, Bb, Ba, q, M, hn.1, h2, h3.step hn.2 (fun _ h _ => h) (by decide)⟩
theorem RowSt.cell {g n lc j : Nat} (h : RowSt w wr A T done pend fresh kb (.slice (some ⟨g, 0, none⟩) n lc) l) (hj : j < l.length) : wr.cell? ⟨g, j, none⟩ = some (.int .i64 ((l.getD j 0 : Nat) : Int)) := by
  have := h.own.cells rfl j (.int .i64 ((l.getD j 0 : Nat) : Int)) (by simp [List.getD_eq_getElem?_getD, hj])
  have e0 : (⟨g, 0, none⟩ : Addr).add j = ⟨g, j, none⟩ := by by_cases e : j = 0 <;> simp [Addr.add, e]
  rwa [e0] at this
theorem rs_fresh (h : RowSt w wr A T done [] fresh kb lv l) (hk : kb ≤ 1000) (hf : fresh < 20) (hd : fresh ∉ done) :
    Calls Try.prog 62 #[.pointer (some ⟨A, 0, none⟩)] wr fun e w' => e = .returned (.int .i64 (256 + (fresh : Int))) ∧ RowSt w w' A T done [] (fresh + 1) (kb + 1) lv l := by
  obtain ⟨col, Bb, Ba, q, M, h1, h2, h3⟩ := h
  obtain ⟨e1, e2, e3⟩ := h2.mkFresh hf h1.rep.1 hd
  refine (mk1 h1 (by omega) fresh _ e1).mono ?_
  rintro e w' ⟨rfl, hN⟩
  exact ⟨by rw [e2]; simp, RowSt.of hN e3 h3⟩
theorem rs_pend (h : RowSt w wr A T done (s :: r) fresh kb lv l) (hk : kb ≤ 1000) (hs : s < fresh) (hf : fresh ≤ 20) (hd : s ∉ done) :
    Calls Try.prog 62 #[.pointer (some ⟨A, 0, none⟩)] wr fun e w' => e = .returned (.int .i64 (512 + (s : Int))) ∧ RowSt w w' A T (s :: done) r fresh (kb + 1) lv l := by
  obtain ⟨col, Bb, Ba, q, M, h1, h2, h3⟩ := h
  obtain ⟨e1, e2, e3⟩ := h2.mkPend hs hf h1.rep.1 hd
  refine (mk1 h1 (by omega) s _ e1).mono ?_
  rintro e w' ⟨rfl, hN⟩
  exact ⟨by rw [e2]; simp, RowSt.of hN e3 h3⟩
theorem rs_full (h : RowSt w wr A T done [] 20 kb lv l) : Calls Try.prog 62 #[.pointer (some ⟨A, 0, none⟩)] wr fun e w' => e = .returned (.int .i64 (-1)) ∧ RowSt w w' A T done [] 20 kb lv l := by
  have hS := h
  obtain ⟨col, Bb, Ba, q, M, h1, h2, h3⟩ := h
  exact (mk1_full h1 h2.row).mono fun e w' ⟨he, hb⟩ => ⟨he, hS.below hb⟩
theorem rs_len (h : RowSt w wr A T done [] 20 kb lv l) : Calls Try.prog 57 #[.pointer (some ⟨A, 0, none⟩)] wr fun e w' => e = .returned (.int .i64 20) ∧ RowSt w w' A T done [] 20 kb lv l := by
  have hS := h
  obtain ⟨col, Bb, Ba, q, M, h1, h2, h3⟩ := h
  refine (as_len h1).mono fun e w' ⟨he, hb⟩ => ⟨?_, hS.below hb⟩
  rw [he, h2.row]; rfl
/-- The handle 256 + s, s one of the first sixteen. -/
theorem rm_slot {M : AM} (h2 : RM [] pend 16 M) (hs : s < 16) (hr : M.g.length = 20) (hm : ∀ t : Nat, t ∈ M.row ↔ t < 20 ∧ M.u.getD t false = false) : M.slot (256 + (s : Int)) = if s ∈ pend then -1 else (s : Int) := by
  have hg := h2.g s (by omega)
  rw [if_neg (by simp), if_pos hs] at hg
  have hmem : s ∈ M.row ↔ s ∈ pend := by
    rw [h2.row, List.mem_append]
    exact ⟨fun h => h.elim id (fun h => by have := (List.mem_range'_1.1 h).1; omega), .inl⟩
  by_cases hp : s ∈ pend
  · have hu := ((hm s).1 (hmem.2 hp)).2
    have hat : M.at (s : Int) = 0 := by
      unfold AM.at
      rw [Int.toNat_natCast, if_neg (fun h => by rw [hu] at h; cases h.2.2)]
    unfold AM.slot
    rw [show (256 + (s : Int)) % 256 = s by omega, hat, if_pos hp, if_pos (.inr (by omega))]
  · have hu : M.u.getD s false = true := by
      cases e : M.u.getD s false with
      | true => rfl
      | false => exact absurd (hmem.1 ((hm s).2 ⟨by omega, e⟩)) hp
    have hat : M.at (s : Int) = 256 + s := by
      unfold AM.at
      rw [Int.toNat_natCast, hg, if_pos ⟨by omega, by omega, hu⟩]; rfl
    unfold AM.slot
    rw [show (256 + (s : Int)) % 256 = s by omega, hat, if_neg hp, if_neg (fun h => h.elim (by omega) (fun h => h rfl))]
theorem rs_free (h : RowSt w wr A T [] pend 16 kb lv l) (hk : kb ≤ 1000) (hs : s < 16) (hp : s ∉ pend) :
    Calls Try.prog 47 #[.pointer (some ⟨A, 0, none⟩), .int .i64 (256 + (s : Int))] wr fun e w' => e = .returned (.int .i64 0) ∧ RowSt w w' A T [] (s :: pend) 16 (kb + 1) lv l := by
  obtain ⟨col, Bb, Ba, q, M, h1, h2, h3⟩ := h
  have hsl := rm_slot h2 hs h1.rep.1 h1.rep.2.2.2.2.1
  rw [if_neg hp] at hsl
  refine (as_free h1 (by omega) _ s hsl).mono ?_
  rintro e w' ⟨rfl, hN⟩
  exact ⟨rfl, RowSt.of hN h2.free h3⟩
theorem rs_free_no (h : RowSt w wr A T [] pend 16 kb lv l) (hk : kb ≤ 1000) (hs : s < 16) (hp : s ∈ pend) :
    Calls Try.prog 47 #[.pointer (some ⟨A, 0, none⟩), .int .i64 (256 + (s : Int))] wr fun e w' => e = .returned (.int .i64 5) ∧ RowSt w w' A T [] pend 16 kb lv l := by
  have hS := h
  obtain ⟨col, Bb, Ba, q, M, h1, h2, h3⟩ := h
  have hsl := rm_slot h2 hs h1.rep.1 h1.rep.2.2.2.2.1
  rw [if_pos hp] at hsl
  exact (as_free_no h1 (by omega) _ (by rw [hsl]; omega)).mono fun e w' ⟨he, hb⟩ => ⟨he, hS.below hb⟩
theorem RowSt.app {lv' : Value} (h : RowSt w wr A T done pend fresh kb lv l) (o : Obj) (hw : w'.ownsRow w.heap.size 3 1 lv' (l.length + 1) ((l.map fun n : Nat => Value.int .i64 (n : Int)) ++ [.int .i64 (s : Int)])) (hg : (wr.alloc o).grownBy w' lv.ownBlock) (hf : ∀ k, lv'.ownBlock = some k → lv.ownBlock = some k ∨ (wr.alloc o).heap.size ≤ k) :
    RowSt w w' A T done pend fresh kb lv' (l ++ [s]) := by
  obtain ⟨col, Bb, Ba, q, M, h1, h2, h3⟩ := h
  have hb : Below wr.heap.size wr (wr.alloc o) := fb_alloc (Below.refl _ _) o
  have k1 := h1.below hb 0
  have k3 := h3.made 0 hb
  refine ⟨_, Bb, Ba, q, M, k1.moved (moved_grown hg) (fun j hj _ => k3.2 j hj) (row_base k3.1) (by decide), h2, ?_⟩
  rw [List.length_append, List.length_singleton, List.map_append, List.map_singleton]
  exact k3.grew hw hf
end
end Go.Proofs.Ytfkkkndigkchcaa
