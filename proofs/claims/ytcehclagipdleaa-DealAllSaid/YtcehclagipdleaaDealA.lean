/- The walks of left, and of the draw that comes next. No condition. -/
import Derived.Test.YtcehclagipdleaaRF
import Derived.Test.YtcehclagipdleaaDealPlain
namespace Go.Proofs.Ytcehclagipdleaa
open Go.RowKit

theorem left_eq (d n : Int) (h : 1 ≤ n) : (d.tmod n + n) % n = d % n := by
  have h1 := Int.tmod_add_mul_tdiv d n
  have h2 : -n < d.tmod n := by
    by_cases h0 : d < 0
    · have := Int.tmod_lt_of_pos (-d) (b := n) (by omega)
      rw [Int.neg_tmod] at this; omega
    · have := Int.tmod_nonneg n (a := d) (by omega); omega
  have h3 := Int.tmod_lt_of_pos d (b := n) (by omega)
  rw [Int.add_emod_right]
  have : d.tmod n = d - n * d.tdiv n := by omega
  rw [this, Int.sub_mul_emod_self_left]
theorem left_any (d n : Int) (h1 : 1 ≤ n) (h2 : n ≤ 5000) (w : World) : Calls Try.prog 16 #[.int .i64 d, .int .i64 n] w fun e w' => e = .returned (.int .i64 (d % n)) ∧ w = w' := by
  have k1 := Int.tmod_lt_of_pos d (b := n) (by omega)
  have k2 : -n < d.tmod n := by
    by_cases h0 : d < 0
    · have := Int.tmod_lt_of_pos (-d) (b := n) (by omega)
      rw [Int.neg_tmod] at this; omega
    · have := Int.tmod_nonneg n (a := d) (by omega); omega
  go_enter Try.func16, Try.ntmps16
  go_wp2
  go_ret
  exact ⟨ret_i64 (left_eq d n h1), rfl⟩

/-- The next draw: there is none. -/
theorem next_none (U D : Nat) (u : Int) (a : Option Addr) (n c : Nat) (w : World) (hu : w.cell? ⟨U, 0, none⟩ = some (.int .i64 u)) (hd : w.cell? ⟨D, 0, none⟩ = some (.slice a n c)) (h : (n : Int) ≤ u) :
    Calls Try.prog 14 #[.pointer (some ⟨U, 0, none⟩), .pointer (some ⟨D, 0, none⟩)] w fun e w' => e = .returned (.int .i64 0) ∧ w = w' := by
  go_enter Try.func14, Try.ntmps14
  go_wp2
  go_ret
  exact ⟨rfl, rfl⟩
/-- The next draw. -/
theorem next_some (U D u b o n c : Nat) (x : Int) (w : World) (hu : w.cell? ⟨U, 0, none⟩ = some (.int .i64 u)) (hf : w.frozen? ⟨U, 0, none⟩ = false) (hd : w.cell? ⟨D, 0, none⟩ = some (.slice (some ⟨b, o, none⟩) n c)) (hx : w.cell? ⟨b, o + u, none⟩ = some (.int .i64 x))
    (h : u < n) (hn : n ≤ 1000000) (hD : D ≠ U) (hb : b ≠ U) :
    Calls Try.prog 14 #[.pointer (some ⟨U, 0, none⟩), .pointer (some ⟨D, 0, none⟩)] w fun e w' => e = .returned (.int .i64 x) ∧ w.setCell ⟨U, 0, none⟩ (.int .i64 ((u + 1 : Nat) : Int)) = w' := by
  go_enter Try.func14, Try.ntmps14
  go_wp2
  go_ret
  exact ⟨rfl, by simp⟩
/-- How many draws are used behind it. -/
def nu (ds : List Int) (u : Nat) : Nat := if u < ds.length then u + 1 else u
theorem next_any (U D n u : Nat) (v : Value) (ds : List Int) (w : World) (hu : w.cell? ⟨U, 0, none⟩ = some (.int .i64 u)) (hf : w.frozen? ⟨U, 0, none⟩ = false) (hd : w.cell? ⟨D, 0, none⟩ = some v) (hI : Ints w n v ds) (hn : n ≤ U)
    (hD : D ≠ U) (hl : ds.length ≤ 1000000) :
    Calls Try.prog 14 #[.pointer (some ⟨U, 0, none⟩), .pointer (some ⟨D, 0, none⟩)] w fun e w' => e = .returned (.int .i64 (ds.getD u 0)) ∧ w.setCell ⟨U, 0, none⟩ (.int .i64 (nu ds u)) = w' := by
  by_cases h : u < ds.length
  · rcases hI with ⟨rfl, _⟩ | ⟨b, o, c, rfl, hc, hb, hx⟩
    · simp at h
    · rw [show nu ds u = u + 1 from if_pos h]
      exact next_some U D u b o ds.length c _ w hu hf hd (hx u h) h hl hD (by omega)
  · have e1 : ds.getD u 0 = 0 := by simp [List.getD_eq_getElem?_getD, List.getElem?_eq_none (Nat.le_of_not_lt h)]
    rw [show nu ds u = u from if_neg h, e1, setCell_same_val hu]
    rcases hI with ⟨rfl, a, c, rfl, _⟩ | ⟨b, o, c, rfl, hc, hb, hx⟩
    · exact next_none U D u a 0 c w hu hd (by omega)
    · exact next_none U D u _ _ _ w hu hd (by omega)
end Go.Proofs.Ytcehclagipdleaa
