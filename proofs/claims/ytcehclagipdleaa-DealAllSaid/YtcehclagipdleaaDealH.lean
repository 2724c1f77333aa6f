/- Perm and the document's Perm at any number and draws; works. No condition. -/
import Derived.Test.YtcehclagipdleaaDealG
namespace Go.Proofs.Ytcehclagipdleaa
open Go.RowKit

theorem Ints.len {w : World} {n k c : Nat} {a : Option Addr} {l : List Int} (h : Ints w n (.slice a k c) l) : k = l.length := by
  rcases h with ⟨rfl, _, _, e, _⟩ | ⟨b, o, c', e, _⟩
  · injection e
  · injection e
theorem usedOf_no {n : Int} (h : ¬ (1 ≤ n ∧ n ≤ 4096)) (ds : List Int) : usedOf n ds = 0 ∧ permOf n ds = [] := by
  unfold usedOf permOf; rw [if_neg h, if_neg h]; exact ⟨rfl, rfl⟩
theorem perm_any (n : Int) (v : Value) (ds : List Int) (w : World) (hI : Ints w w.heap.size v ds) (hl : ds.length ≤ 1000000) :
    Calls Try.prog 8 #[.int .i64 n, v] w fun e w' => ∃ u, e = .returned (.tuple #[u, .int .i64 (usedOf n ds : Nat)]) ∧ Ints w' w'.heap.size u (permOf n ds) ∧ Below w.heap.size w w' := by
  obtain ⟨x, c, rfl, _⟩ := hI.parts
  by_cases h : 1 ≤ n ∧ n ≤ 4096
  · obtain ⟨N, rfl⟩ := Int.eq_ofNat_of_zero_le (show 0 ≤ n by omega)
    refine (perm_yes N (by omega) (by omega) x ds.length c ds w hI hl).mono ?_
    rintro e w' ⟨B, he, hB, hA, hb⟩
    refine ⟨_, he, ?_, hb⟩
    have hN : (permOf N ds).length = N := by rw [(permOf_nat N (by omega) (by omega) ds).1, prm_len, ids_len]
    have := Ints.arr hA (Nat.le_refl _)
    rwa [hN] at this
  · obtain ⟨h1, h2⟩ := usedOf_no h ds
    exact (perm_no n h x _ c w).mono fun e w' ⟨he, hb⟩ => ⟨_, by rw [h1]; exact he, by rw [h2]; exact Ints.nil _ _, hb⟩
theorem rperm_any (n : Int) (v : Value) (ds : List Int) (w : World) (hI : Ints w w.heap.size v ds) (hl : ds.length ≤ 1000000) :
    Calls Try.prog 9 #[.int .i64 n, v] w fun e w' => ∃ u, e = .returned (.tuple #[u, .int .i64 (usedOf n ds : Nat)]) ∧ Ints w' w'.heap.size u (permOf n ds) ∧ Below w.heap.size w w' := by
  obtain ⟨x, c, rfl, _⟩ := hI.parts
  by_cases h : 1 ≤ n ∧ n ≤ 4096
  · obtain ⟨N, rfl⟩ := Int.eq_ofNat_of_zero_le (show 0 ≤ n by omega)
    exact rperm_yes N (by omega) (by omega) x ds.length c ds w hI hl
  · obtain ⟨h1, h2⟩ := usedOf_no h ds
    exact (rperm_no n h x _ c w).mono fun e w' ⟨he, hb⟩ => ⟨_, by rw [h1]; exact he, by rw [h2]; exact Ints.nil _ _, hb⟩

theorem ints_lit2 (w : World) (x y : Int) : Ints (w.alloc (.cells #[.int .i64 x, .int .i64 y] 3)) (w.heap.size + 1) (.slice (some ⟨w.heap.size, 0, none⟩) 2 2) [x, y] := by
  have := Ints.arr (l := [x, y]) (n := w.heap.size + 1) (Arr.new w 3 ([x, y].map (Value.int .i64))) (by simp)
  simpa using this
theorem ints_lit3 (w : World) (x y z : Int) : Ints (w.alloc (.cells #[.int .i64 x, .int .i64 y, .int .i64 z] 3)) (w.heap.size + 1) (.slice (some ⟨w.heap.size, 0, none⟩) 3 3) [x, y, z] := by
  have := Ints.arr (l := [x, y, z]) (n := w.heap.size + 1) (Arr.new w 3 ([x, y, z].map (Value.int .i64))) (by simp)
  simpa using this

theorem ints_up {w : World} {n m : Nat} {v : Value} {l : List Int} (h : Ints w n v l) (o : Obj) (hm : n ≤ m) : Ints (w.alloc o) m v l := by
  rcases h with h | ⟨b, o', c, e, hl, h1, h2⟩
  · exact .inl h
  · refine .inr ⟨b, o', c, e, hl, by omega, fun j hj => ?_⟩
    have h3 := h2 j hj
    have : b < w.heap.size := World.block_lt_of_cell? _ _ h3
    exact (((Below.refl _ w).alloc (Nat.le_refl _) o).cell (p := ⟨b, o' + j, none⟩) this).trans h3
set_option maxHeartbeats 1000000 in
theorem works_any (w : World) : Calls Try.prog 11 #[] w fun e w' => e = .returned (.bool true) ∧ Below w.heap.size w w' := by
  go_enter Try.func11, Try.ntmps11
  go_wp2_with fail
  refine (perm_any 3 _ [0, 0] _ (by simpa using ints_lit2 w 0 0) (by simp)).mono ?_
  rintro e w1 ⟨u, rfl, hu, hb1⟩
  rw [show usedOf 3 [0, 0] = 2 from by decide]
  rw [show permOf 3 [0, 0] = [1, 2, 0] from by decide] at hu
  have HU := Lib.hid (And.intro hu hb1)
  clear hu hb1
  go_wp2_with fail
  refine (alike_any (w1.heap.size + 1) u _ [1, 2, 0] [1, 2, 0] _ (HU.out.1.below ((Below.refl _ w1).alloc (Nat.le_refl _) _) (Nat.le_refl _) |>.mono (by omega)) (by simpa using ints_lit3 w1 1 2 0) (by simp)).mono ?_
  rintro e w2 ⟨rfl, hb2⟩
  rw [show alk [1, 2, 0] [1, 2, 0] = true from by decide]
  have HB := Lib.hid hb2
  clear hb2
  go_wp2_with fail
  refine (turned_any (w2.heap.size + 1 + 1) _ _ [7, 8, 9] [2, 0, 1] _ (ints_up (ints_lit3 w2 7 8 9) _ (by omega)) (by have := ints_lit3 (w2.alloc (.cells #[.int .i64 7, .int .i64 8, .int .i64 9] 3)) 2 0 1; simpa using this) (by simp) (by simp)).mono ?_
  rintro e w3 ⟨v, rfl, hv, hb3⟩
  rw [show turnOf [7, 8, 9] [2, 0, 1] = [9, 7, 8] from by decide] at hv
  have HV := Lib.hid (And.intro hv hb3)
  clear hv hb3
  go_wp2_with fail
  refine (alike_any (w3.heap.size + 1) v _ [9, 7, 8] [9, 7, 8] _ (ints_up HV.out.1 _ (by omega)) (by simpa using ints_lit3 w3 9 7 8) (by simp)).mono ?_
  rintro e w4 ⟨rfl, hb4⟩
  rw [show alk [9, 7, 8] [9, 7, 8] = true from by decide]
  have HB4 := Lib.hid hb4
  clear hb4
  go_wp2
  go_ret
  exact ⟨rfl, fb_call (fb_alloc (fb_call (fb_alloc (fb_alloc (fb_call (fb_alloc (fb_call (fb_alloc (Below.refl _ w) _) HU.out.2) _) HB.out) _) _) HV.out.2) _) HB4.out⟩
end Go.Proofs.Ytcehclagipdleaa
