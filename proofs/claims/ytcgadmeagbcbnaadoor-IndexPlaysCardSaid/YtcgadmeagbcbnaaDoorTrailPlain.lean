/- The plain law of a trail: how changes are taken back. No condition. -/
import Derived.Handy
namespace Go.Proofs.YtcgadmeagbcbnaaDoor

/-- One change taken back. -/
def undo1 (cs : List Int) (p : Int × Int) : List Int := if 0 ≤ p.1 then cs.set p.1.toNat p.2 else cs.take (cs.length - p.2.toNat)
/-- It can be taken back. -/
def ok1 (cs : List Int) (p : Int × Int) : Prop := (0 ≤ p.1 ∧ p.1 < cs.length) ∨ (p.1 = -1 ∧ 1 ≤ p.2 ∧ p.2 ≤ cs.length)
/-- All can, the last one first. -/
def okR : List Int → List (Int × Int) → Prop
  | _, [] => True
  | cs, p :: r => ok1 cs p ∧ okR (undo1 cs p) r
def backs (cs : List Int) (r : List (Int × Int)) : List Int := r.foldl undo1 cs
theorem backs_append (cs : List Int) (r s : List (Int × Int)) : backs cs (r ++ s) = backs (backs cs r) s := by simp [backs]
theorem okR_append : ∀ (r s : List (Int × Int)) (cs : List Int), okR cs (r ++ s) ↔ okR cs r ∧ okR (backs cs r) s := by
  intro r
  induction r with
  | nil => intro s cs; simp [okR, backs]
  | cons p r ih => intro s cs; simp only [List.cons_append, okR, ih, backs, List.foldl_cons]; exact and_assoc.symm
theorem okR_at {r : List (Int × Int)} {cs : List Int} {k : Nat} {p : Int × Int} (h : okR cs r) (hp : r[k]? = some p) : ok1 (backs cs (r.take k)) p ∧ backs cs (r.take (k + 1)) = undo1 (backs cs (r.take k)) p := by
  have hk : k < r.length := (List.getElem?_eq_some_iff.1 hp).1
  have he : r[k] = p := (List.getElem?_eq_some_iff.1 hp).2
  have e : r = r.take k ++ p :: r.drop (k + 1) := by rw [← he, List.getElem_cons_drop, List.take_append_drop]
  rw [e] at h
  refine ⟨((okR_append _ _ _).1 h).2.1, ?_⟩
  rw [List.take_succ_eq_append_getElem hk, backs_append, he]; rfl
theorem undo1_len (cs : List Int) (p : Int × Int) : (undo1 cs p).length ≤ cs.length := by
  unfold undo1; split
  · simp
  · simp
theorem backs_len : ∀ (r : List (Int × Int)) (cs : List Int), (backs cs r).length ≤ cs.length := by
  intro r
  induction r with
  | nil => intro cs; exact Nat.le_refl _
  | cons p r ih => intro cs; exact Nat.le_trans (ih _) (undo1_len cs p)

/-- A trail's cells and its changes fit. -/
def okH (cs : List Int) (hs : List (Int × Int)) : Prop := okR cs hs.reverse
/-- The cells as they were at a mark. -/
def was (cs : List Int) (hs : List (Int × Int)) (m : Nat) : List Int := backs cs (hs.drop m).reverse
theorem okH_nil : okH [] [] := trivial
theorem okH_set {cs : List Int} {hs : List (Int × Int)} (h : okH cs hs) {n : Nat} (hn : n < cs.length) (v : Int) : okH (cs.set n v) (hs ++ [((n : Int), cs.getD n 0)]) := by
  unfold okH
  rw [List.reverse_append]
  refine ⟨.inl ⟨by show 0 ≤ (n : Int); omega, by show (n : Int) < _; simp; omega⟩, ?_⟩
  have e : undo1 (cs.set n v) ((n : Int), cs.getD n 0) = cs := by
    unfold undo1
    rw [if_pos (by show 0 ≤ (n : Int); omega), Int.toNat_natCast, List.set_set]
    simp [List.getD_eq_getElem?_getD, hn]
  show okR (undo1 (cs.set n v) ((n : Int), cs.getD n 0)) hs.reverse
  rw [e]; exact h
theorem okH_alloc {cs : List Int} {hs : List (Int × Int)} (h : okH cs hs) {n : Nat} (hn : 0 < n) : okH (cs ++ List.replicate n 0) (hs ++ [((-1 : Int), (n : Int))]) := by
  unfold okH
  rw [List.reverse_append]
  refine ⟨.inr ⟨rfl, by show 1 ≤ (n : Int); omega, by show (n : Int) ≤ _; simp; omega⟩, ?_⟩
  have e : undo1 (cs ++ List.replicate n 0) ((-1 : Int), (n : Int)) = cs := by
    unfold undo1
    rw [if_neg (by show ¬ (0 ≤ (-1 : Int)); omega), Int.toNat_natCast]
    simp
  show okR (undo1 (cs ++ List.replicate n 0) ((-1 : Int), (n : Int))) hs.reverse
  rw [e]; exact h
theorem okH_back {cs : List Int} {hs : List (Int × Int)} (h : okH cs hs) (m : Nat) : okH (was cs hs m) (hs.take m) := by
  unfold okH was at *
  have e : hs.reverse = (hs.drop m).reverse ++ (hs.take m).reverse := by rw [← List.reverse_append, List.take_append_drop]
  rw [e] at h
  exact ((okR_append _ _ _).1 h).2
theorem okH_sfx {cs : List Int} {hs : List (Int × Int)} (h : okH cs hs) (m : Nat) : okR cs (hs.drop m).reverse := by
  unfold okH at h
  have e : hs.reverse = (hs.drop m).reverse ++ (hs.take m).reverse := by rw [← List.reverse_append, List.take_append_drop]
  rw [e] at h
  exact ((okR_append _ _ _).1 h).1
/-- At the last mark the cells are what they are. -/
theorem was_last (cs : List Int) (hs : List (Int × Int)) : was cs hs hs.length = cs := by unfold was; rw [List.drop_length]; rfl
theorem was_set (cs : List Int) (hs : List (Int × Int)) {n : Nat} (hn : n < cs.length) (v : Int) (m : Nat) (hm : m ≤ hs.length) : was (cs.set n v) (hs ++ [((n : Int), cs.getD n 0)]) m = was cs hs m := by
  unfold was
  rw [List.drop_append_of_le_length hm, List.reverse_append]
  have e : undo1 (cs.set n v) ((n : Int), cs.getD n 0) = cs := by
    unfold undo1
    rw [if_pos (by show 0 ≤ (n : Int); omega), Int.toNat_natCast, List.set_set]
    simp [List.getD_eq_getElem?_getD, hn]
  show backs (undo1 (cs.set n v) ((n : Int), cs.getD n 0)) _ = _
  rw [e]; rfl
theorem was_alloc (cs : List Int) (hs : List (Int × Int)) (n m : Nat) (hm : m ≤ hs.length) : was (cs ++ List.replicate n 0) (hs ++ [((-1 : Int), (n : Int))]) m = was cs hs m := by
  unfold was
  rw [List.drop_append_of_le_length hm, List.reverse_append]
  have e : undo1 (cs ++ List.replicate n 0) ((-1 : Int), (n : Int)) = cs := by
    unfold undo1
    rw [if_neg (by show ¬ (0 ≤ (-1 : Int)); omega), Int.toNat_natCast]
    simp
  show backs (undo1 (cs ++ List.replicate n 0) ((-1 : Int), (n : Int))) _ = _
  rw [e]; rfl
theorem was_back (cs : List Int) (hs : List (Int × Int)) (m k : Nat) (hk : k ≤ m) : was (was cs hs m) (hs.take m) k = was cs hs k := by
  unfold was
  rw [← backs_append, ← List.reverse_append]
  congr 2
  rw [List.drop_take, show List.drop m hs = List.drop (m - k) (List.drop k hs) from by rw [List.drop_drop]; congr 1; omega, List.take_append_drop]
end Go.Proofs.YtcgadmeagbcbnaaDoor
