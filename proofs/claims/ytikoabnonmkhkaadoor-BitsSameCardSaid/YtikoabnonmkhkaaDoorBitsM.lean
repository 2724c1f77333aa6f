/- The two Nexts agree; the law's own walk over two rows. -/
import Derived.Test.YtikoabnonmkhkaaDoorBitsG
namespace Go.Proofs.YtikoabnonmkhkaaDoor
open Go.RowKit

theorem lst_sorted (S : List Nat) : (lst S).Pairwise (· < ·) := List.Pairwise.filter _ List.pairwise_lt_range
theorem first_next {S : List Nat} {i v : Int} (h : FirstGe (lst S) i v) : NextR S i.toNat v := by
  rcases h with ⟨rfl, h⟩ | ⟨A, y, B, hL, rfl, hi, hA⟩
  · refine .inl ⟨rfl, fun k h1 h2 => ?_⟩
    rcases hk : hasB S k with _ | _
    · rfl
    · have := h k ((mem_lst S k).2 ⟨h2, hk⟩)
      omega
  · have hy := (mem_lst S y).1 (by rw [hL]; simp)
    have hs := lst_sorted S
    rw [hL, List.pairwise_append] at hs
    refine .inr ⟨y, rfl, by omega, hy.1, hy.2, fun k h1 h2 => ?_⟩
    rcases hk : hasB S k with _ | _
    · rfl
    · have hm := (mem_lst S k).2 ⟨by omega, hk⟩
      rw [hL, List.mem_append, List.mem_cons] at hm
      rcases hm with hm | rfl | hm
      · have := hA k hm; omega
      · omega
      · have := (List.pairwise_cons.1 hs.2.1).1 k hm; omega
set_option maxHeartbeats 2000000 in
theorem ints_any (n : Nat) (v u : Value) (L : List Nat) (w : World) (hI : Ints w n v (zl L)) (hJ : Ints w n u (zl L)) (hl : L.length ≤ 1000) :
    Calls Tryd.prog 37 #[v, u] w fun e w' => e = .returned (.bool true) ∧ Below w.heap.size w w' := by
  obtain ⟨av, cv, rfl⟩ := ints_form hI
  obtain ⟨au, cu, rfl⟩ := ints_form hJ
  have HI := Lib.hid (And.intro hI hJ)
  clear hI hJ
  go_enter Tryd.func37, Tryd.ntmps37
  go_wp2
  go_loopw [5] (fun x wr => ∃ k : Nat, k ≤ L.length ∧ x = .int .i64 k ∧ ∃ m, wr = w.drewN m) (fun x _ => L.length - (intOf x).toNat)
  case atStart => exact ⟨0, by omega, rfl, 0, rfl⟩
  case round =>
    obtain ⟨k, hk, rfl, m, rfl⟩ := hrel
    by_cases hlt : k < L.length
    · obtain ⟨b, o, c, e, hb, hc⟩ := ints_cell HI.out.1 hlt
      cases e
      obtain ⟨b', o', c', e, hb', hc'⟩ := ints_cell HI.out.2 hlt
      cases e
      have h1 := hc k hlt
      have h2 := hc' k hlt
      obtain ⟨y, hy⟩ : ∃ y, L.getD k 0 = y := ⟨_, rfl⟩
      rw [hy] at h1 h2
      have hi1 : (k : Int) < L.length := by omega
      have hi0 : (0 : Int) ≤ k := by omega
      clear hc hc' hy hb hb'
      go_wp2
      go_quiet (fail)
      go_wp2
      go_roundw
      case rel => exact ⟨k + 1, by omega, by go_num, _, rfl⟩
      case measure => simp [intOf]; omega
    · obtain rfl : k = L.length := by omega
      go_wp2
      go_ret
      exact ⟨rfl, fb_drewN (Below.refl _ _) _⟩
end Go.Proofs.YtikoabnonmkhkaaDoor
