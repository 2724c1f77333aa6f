/- The walk of ints. No condition. -/
import Derived.Test.YtcgadmeagbcbnaaDoorIdxNew
namespace Go.Proofs.YtcgadmeagbcbnaaDoor
open Go.RowKit

theorem list_ext_getD {a b : List Int} (hl : a.length = b.length) (h : ∀ j, j < a.length → a.getD j 0 = b.getD j 0) : a = b := by
  apply List.ext_getElem hl
  intro i h1 h2
  have := h i h1
  simpa [List.getD_eq_getElem?_getD, h1, h2] using this
theorem Ints.parts {w : World} {n : Nat} {v : Value} {l : List Int} (h : Ints w n v l) : ∃ x c, v = .slice x l.length c ∧ (l = [] ∨ ∃ b o, x = some ⟨b, o, none⟩ ∧ b < n ∧ ∀ j, j < l.length → w.cell? ⟨b, o + j, none⟩ = some (.int .i64 (l.getD j 0))) := by
  rcases h with ⟨rfl, a, c, rfl, _⟩ | ⟨b, o, c, rfl, hl, h1, h2⟩
  · exact ⟨a, c, rfl, .inl rfl⟩
  · exact ⟨_, c, rfl, .inr ⟨b, o, rfl, h1, h2⟩⟩
/-- Are two lists alike? -/
def alk (a b : List Int) : Bool := decide (a = b)
theorem alk_same (a : List Int) : alk a a = true := by simp [alk]
theorem ints_len (x y : Option Addr) (n m c d : Nat) (h : n ≠ m) (w : World) : Calls Tryd.prog 22 #[.slice x n c, .slice y m d] w fun e w' => e = .returned (.bool false) ∧ Below w.heap.size w w' := by
  have hB : ((n : Int) != (m : Int)) = true := by simp; omega
  clear h
  go_enter Tryd.func22, Tryd.ntmps22
  go_wp2
  go_ret
  exact ⟨rfl, Below.refl _ _⟩
theorem ints_nil (x y : Option Addr) (c d : Nat) (w : World) : Calls Tryd.prog 22 #[.slice x 0 c, .slice y 0 d] w fun e w' => e = .returned (.bool true) ∧ Below w.heap.size w w' := by
  go_enter Tryd.func22, Tryd.ntmps22
  go_wp2
  refine wp_loop_rounds 1 ?_
  rw [rounds_succ]
  go_wp2
  go_ret
  exact ⟨rfl, Below.refl _ _⟩
set_option maxHeartbeats 1000000 in
theorem ints_cells (b o b' o' n c d : Nat) (l m : List Int) (w : World) (hl : l.length = n) (hm : m.length = n) (hn : n ≤ 1000000)
    (h1 : ∀ j, j < n → w.cell? ⟨b, o + j, none⟩ = some (.int .i64 (l.getD j 0))) (h2 : ∀ j, j < n → w.cell? ⟨b', o' + j, none⟩ = some (.int .i64 (m.getD j 0))) :
    Calls Tryd.prog 22 #[.slice (some ⟨b, o, none⟩) n c, .slice (some ⟨b', o', none⟩) n d] w fun e w' => e = .returned (.bool (alk l m)) ∧ Below w.heap.size w w' := by
  have H1 := Lib.hid h1
  have H2 := Lib.hid h2
  have HL := Lib.hid hl
  have HM := Lib.hid hm
  clear h1 h2 hl hm
  go_enter Tryd.func22, Tryd.ntmps22
  go_wp2
  go_loopw [5] (fun i wr => ∃ k nd : Nat, k ≤ n ∧ i = .int .i64 k ∧ (∀ j, j < k → l.getD j 0 = m.getD j 0) ∧ wr = w.drewN nd) (fun i _ => n - (intOf i).toNat)
  case atStart => exact ⟨0, 0, Nat.zero_le _, rfl, fun j hj => by omega, rfl⟩
  case round =>
    obtain ⟨k, nd, hk, rfl, heq, rfl⟩ := hrel
    have HE := Lib.hid heq
    clear heq
    by_cases hlt : k < n
    · have c1 : w.cell? ⟨b, o + k, none⟩ = some (.int .i64 (l.getD k 0)) := H1.out k hlt
      have c2 : w.cell? ⟨b', o' + k, none⟩ = some (.int .i64 (m.getD k 0)) := H2.out k hlt
      by_cases he : l.getD k 0 = m.getD k 0
      · have HEK := Lib.hid he
        obtain ⟨x, hx⟩ : ∃ x, m.getD k 0 = x := ⟨_, rfl⟩
        rw [he, hx] at c1
        rw [hx] at c2
        clear hx he
        have b0 : (0 : Int) ≤ k := by omega
        have b1 : (k : Int) < n := by omega
        go_wp2
        go_quiet (fail)
        go_wp2
        go_roundw
        case rel => exact ⟨k + 1, _, by omega, by go_num, fun j hj => by
          by_cases e : j = k
          · subst e; exact HEK.out
          · exact HE.out j (by omega), by first | rfl | simp⟩
        case measure => simp [intOf]; omega
      · have hne : alk l m = false := by
          unfold alk
          rw [decide_eq_false_iff_not]
          intro e; exact he (by rw [e])
        have HNE := Lib.hid hne
        obtain ⟨x, hx⟩ : ∃ x, l.getD k 0 = x := ⟨_, rfl⟩
        obtain ⟨y, hy⟩ : ∃ y, m.getD k 0 = y := ⟨_, rfl⟩
        rw [hx] at c1
        rw [hy] at c2
        rw [hx, hy] at he
        have hB : (x != y) = true := by simp [he]
        clear hx hy he hne
        have b0 : (0 : Int) ≤ k := by omega
        have b1 : (k : Int) < n := by omega
        go_wp2
        go_quiet (fail)
        go_wp2
        go_ret
        exact ⟨ret_b HNE.out.symm, bel_drewN (bel_drewN (Below.refl _ _) _) _⟩
    · obtain rfl : n = k := by omega
      clear hlt
      go_wp2
      go_ret
      exact ⟨ret_b (by
        unfold alk
        rw [eq_comm, decide_eq_true_iff]
        exact list_ext_getD (HL.out.trans HM.out.symm) (fun j hj => HE.out j (by rw [← HL.out]; exact hj))), bel_drewN (Below.refl _ _) _⟩

theorem ints_any (n : Nat) (u v : Value) (l m : List Int) (w : World) (h1 : Ints w n u l) (h2 : Ints w n v m) (hn : l.length ≤ 1000000) :
    Calls Tryd.prog 22 #[u, v] w fun e w' => e = .returned (.bool (alk l m)) ∧ Below w.heap.size w w' := by
  obtain ⟨x, c, rfl, p1⟩ := h1.parts
  obtain ⟨y, d, rfl, p2⟩ := h2.parts
  by_cases hl : l.length = m.length
  · rcases p1 with rfl | ⟨b, o, rfl, _, q1⟩
    · obtain rfl : m = [] := List.eq_nil_of_length_eq_zero hl.symm
      rw [alk_same]
      exact ints_nil _ _ _ _ w
    · rcases p2 with rfl | ⟨b', o', rfl, _, q2⟩
      · obtain rfl : l = [] := List.eq_nil_of_length_eq_zero hl
        rw [alk_same]
        exact ints_nil _ _ _ _ w
      · rw [← hl] at q2 ⊢
        exact ints_cells b o b' o' l.length c d l m w rfl hl.symm hn q1 q2
  · rw [show alk l m = false from by unfold alk; rw [decide_eq_false_iff_not]; intro e; exact hl (by rw [e])]
    exact ints_len _ _ _ _ _ _ hl w
theorem ints_eq (n : Nat) (u v : Value) (l : List Int) (w : World) (h1 : Ints w n u l) (h2 : Ints w n v l) (hn : l.length ≤ 1000000) :
    Calls Tryd.prog 22 #[u, v] w fun e w' => e = .returned (.bool true) ∧ Below w.heap.size w w' := by
  have := ints_any n u v l l w h1 h2 hn
  rw [alk_same] at this
  exact this
/-- A slice that is written out. -/
theorem ints_lit (w : World) (l : List Int) : Ints (w.alloc (.cells (l.map (Value.int .i64)).toArray 3)) (w.heap.size + 1) (.slice (some ⟨w.heap.size, 0, none⟩) l.length l.length) l := by
  refine .inr ⟨w.heap.size, 0, l.length, rfl, Nat.le_refl _, Nat.lt_succ_self _, fun j hj => ?_⟩
  rw [Nat.zero_add]
  exact Arr.int (Arr.new w 3 (l.map (Value.int .i64))) hj
end Go.Proofs.YtcgadmeagbcbnaaDoor
