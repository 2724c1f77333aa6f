/- The law's own walk: a set of any row of numbers; what BitsSame wants. No condition. -/
import Derived.Test.YtikoabnonmkhkaaDoorBitsR
namespace Go.Proofs.YtikoabnonmkhkaaDoor
open Go.RowKit

def setOfI (L : List Int) : List Nat := L.foldl addI [0, 0, 0, 0]
theorem wf_foldI (L : List Int) : ∀ S, wfB S → wfB (L.foldl addI S) := by
  induction L with
  | nil => exact fun _ h => h
  | cons x L ih => intro S h; rw [List.foldl_cons]; exact ih (addI S x) (wf_addI h x)
theorem wf_setOfI (L : List Int) : wfB (setOfI L) := wf_foldI L [0, 0, 0, 0] wf_zero
theorem setOfI_succ (L : List Int) (k : Nat) (y : Int) (h : L[k]? = some y) : setOfI (L.take (k + 1)) = addI (setOfI (L.take k)) y := by
  unfold setOfI
  rw [List.take_add_one, h, List.foldl_append]
  simp only [Option.toList_some, List.foldl_cons, List.foldl_nil]
theorem intsI_form {w : World} {n : Nat} {v : Value} {L : List Int} (h : Ints w n v L) : ∃ a c, v = .slice a L.length c := by
  rcases h with ⟨rfl, a, c, e, _⟩ | ⟨b, o, c, e, _⟩
  · exact ⟨a, c, e⟩
  · exact ⟨_, c, e⟩
theorem intsI_cell {w : World} {n : Nat} {v : Value} {L : List Int} (h : Ints w n v L) {k : Nat} (hk : k < L.length) : ∃ b o c, v = .slice (some ⟨b, o, none⟩) L.length c ∧ b < n ∧ ∀ j, j < L.length → w.cell? ⟨b, o + j, none⟩ = some (.int .i64 (L.getD j 0)) := by
  rcases h with ⟨rfl, _⟩ | ⟨b, o, c, e, hl, h1, h2⟩
  · simp at hk
  · exact ⟨b, o, c, e, h1, h2⟩
theorem ints_take {w : World} {n N k c : Nat} {a : Option Addr} {l : List Int} (h : Ints w n (.slice a k c) l) (hk : k = l.length) (hN : N ≤ k) : Ints w n (.slice a N c) (l.take N) := by
  rcases h with ⟨rfl, a', c', e, hn⟩ | ⟨b, o, c', e, hl, h1, h2⟩
  · injection e with e1 e2 e3
    subst e1 e3
    have : N = 0 := by simp at hk; omega
    subst this
    exact .inl ⟨by simp, a, c, rfl, hn⟩
  · injection e with e1 e2 e3
    subst e1 e3
    have e4 : (l.take N).length = N := by simp; omega
    refine .inr ⟨b, o, c, by rw [e4], by rw [e4]; omega, h1, fun j hj => ?_⟩
    rw [e4] at hj
    rw [h2 j (by omega)]
    simp [List.getD_eq_getElem?_getD, hj]
set_option maxRecDepth 100000 in
set_option maxHeartbeats 2000000 in
theorem of_anyI (v : Value) (L : List Int) (w : World) (hI : Ints w w.heap.size v L) (hl : L.length ≤ 1000) : Calls Tryd.prog 28 #[v] w fun e w' => e = .returned (svL (setOfI L)) ∧ Below w.heap.size w w' := by
  obtain ⟨av, cv, rfl⟩ := intsI_form hI
  have HI := Lib.hid hI
  clear hI
  have HR := Lib.hid (Arr.new w 24 [.int .u64 0, .int .u64 0, .int .u64 0, .int .u64 0])
  have HS := Lib.hid (Arr.new (w.alloc (.cells #[.int .u64 0, .int .u64 0, .int .u64 0, .int .u64 0] 24)) 24 [.int .u64 0, .int .u64 0, .int .u64 0, .int .u64 0])
  go_enter Tryd.func28, Tryd.ntmps28
  go_wp2
  go_loopw [4] (fun x wr => ∃ k : Nat, k ≤ L.length ∧ x = .int .i64 k ∧ Below w.heap.size w wr ∧ Arr wr w.heap.size 24 [.int .u64 0, .int .u64 0, .int .u64 0, .int .u64 0] ∧ ∃ a b c d : Nat, setOfI (L.take k) = [a, b, c, d] ∧ Arr wr (w.heap.size + 1) 24 [.int .u64 a, .int .u64 b, .int .u64 c, .int .u64 d]) (fun x _ => L.length - (intOf x).toNat)
  case atStart =>
    have h2 := HS.out
    simp only [World.size_alloc] at h2
    exact ⟨0, by omega, rfl, fb_alloc (fb_alloc (Below.refl _ _) _) _, HR.out.alloc _, 0, 0, 0, 0, rfl, h2⟩
  case round =>
    obtain ⟨k, hk, rfl, hbel, hR, a, b, c, d, hS, hA⟩ := hrel
    have d0 : wr.cell? ⟨w.heap.size + 1, 0, none⟩ = some (.int .u64 a) := hA.cell 0
    have d1 : wr.cell? ⟨w.heap.size + 1, 1, none⟩ = some (.int .u64 b) := hA.cell 1
    have d2 : wr.cell? ⟨w.heap.size + 1, 2, none⟩ = some (.int .u64 c) := hA.cell 2
    have d3 : wr.cell? ⟨w.heap.size + 1, 3, none⟩ = some (.int .u64 d) := hA.cell 3
    by_cases hlt : k < L.length
    · obtain ⟨bl, o, cl, e, hb, hc⟩ := intsI_cell HI.out hlt
      cases e
      have h1 := (hbel.cell (p := ⟨bl, o + k, none⟩) hb).trans (hc k hlt)
      obtain ⟨y, hy⟩ : ∃ y, L.getD k 0 = y := ⟨_, rfl⟩
      rw [hy] at h1
      have hi1 : (k : Int) < L.length := by omega
      have hi0 : (0 : Int) ≤ k := by omega
      have hw : wfB [a, b, c, d] := by rw [← hS]; exact wf_setOfI _
      obtain ⟨a', b', c', d', hS', _⟩ := wf_form (wf_addI hw y)
      have hadd : ∀ W : World, Calls Tryd.prog 11 #[.agg #[.int .u64 a, .int .u64 b, .int .u64 c, .int .u64 d], .int .i64 y] W fun e w' => e = .returned (.agg #[.int .u64 a', .int .u64 b', .int .u64 c', .int .u64 d']) ∧ Below W.heap.size W w' := fun W => by
        have := badd_any hw y W
        rw [hS'] at this
        exact this
      have hgy : L[k]? = some y := by rw [← hy, List.getD_eq_getElem?_getD]; simp [hlt]
      have hnext : setOfI (L.take (k + 1)) = [a', b', c', d'] := by rw [setOfI_succ L k y hgy, hS, hS']
      have HX := Lib.hid (And.intro hbel (And.intro hR (And.intro hA hnext)))
      have HAD := Lib.hid hadd
      have g0 : ∀ u, (lat wr u).cell? ⟨w.heap.size + 1, 0, none⟩ = some (.int .u64 a) := fun u => (hA.below (bel_lat0 wr u) hA.lt).cell 0
      have g1 : ∀ u, (lat wr u).cell? ⟨w.heap.size + 1, 1, none⟩ = some (.int .u64 b) := fun u => (hA.below (bel_lat0 wr u) hA.lt).cell 1
      have g2 : ∀ u, (lat wr u).cell? ⟨w.heap.size + 1, 2, none⟩ = some (.int .u64 c) := fun u => (hA.below (bel_lat0 wr u) hA.lt).cell 2
      have g3 : ∀ u, (lat wr u).cell? ⟨w.heap.size + 1, 3, none⟩ = some (.int .u64 d) := fun u => (hA.below (bel_lat0 wr u) hA.lt).cell 3
      have g4 : ∀ u, (lat wr u).cell? ⟨bl, o + k, none⟩ = some (.int .i64 y) := fun u => ((bel_lat0 wr u).cell (p := ⟨bl, o + k, none⟩) (World.block_lt_of_cell? _ _ h1)).trans h1
      clear hadd hnext hgy hw hS hS' hbel hR hA hc hy hb
      go_wp2
      refine wp_region_lat_tail 6 (by kernel_rfl) (by kernel_rfl) ?_
      simp only [List.take_succ_cons, List.take_zero, List.drop_succ_cons, List.drop_zero]
      repeat (go_big_quiet_step (first | (go_at_call 11; exact quiet_lat (HAD.out _))))
      refine wpQuiet_nil ?_
      intro _ hw'
      obtain ⟨nu, hw''⟩ := hw'
      subst hw''
      have hA2 := HX.out.2.2.1.below (bel_lat0 wr nu) HX.out.2.2.1.lt
      have f0 : (lat wr nu).frozen? ⟨w.heap.size + 1, 0, none⟩ = false := hA2.frozen 0
      have f1 : (lat wr nu).frozen? ⟨w.heap.size + 1, 1, none⟩ = false := hA2.frozen 1
      have f2 : (lat wr nu).frozen? ⟨w.heap.size + 1, 2, none⟩ = false := hA2.frozen 2
      have f3 : (lat wr nu).frozen? ⟨w.heap.size + 1, 3, none⟩ = false := hA2.frozen 3
      go_wp2
      go_roundw
      case rel =>
        have hbl := HX.out.1.trans ((bel_lat0 wr nu).mono HX.out.1.size)
        have hR2 := HX.out.2.1.below (bel_lat0 wr nu) HX.out.2.1.lt
        refine ⟨k + 1, by omega, by go_num, ?_, ?_, a', b', c', d', HX.out.2.2.2, ?_⟩
        · exact (((hbl.setCell (p := ⟨w.heap.size + 1, 0, none⟩) (Nat.le_succ _) _).setCell (p := ⟨w.heap.size + 1, 1, none⟩) (Nat.le_succ _) _).setCell (p := ⟨w.heap.size + 1, 2, none⟩) (Nat.le_succ _) _).setCell (p := ⟨w.heap.size + 1, 3, none⟩) (Nat.le_succ _) _
        · exact (((hR2.set_other _ _ (Nat.ne_of_lt (Nat.lt_succ_self _))).set_other _ _ (Nat.ne_of_lt (Nat.lt_succ_self _))).set_other _ _ (Nat.ne_of_lt (Nat.lt_succ_self _))).set_other _ _ (Nat.ne_of_lt (Nat.lt_succ_self _))
        · exact (((hA2.set 0 _).set 1 _).set 2 _).set 3 _
      case measure => simp [intOf]; omega
    · obtain rfl : k = L.length := by omega
      have r0 : wr.cell? ⟨w.heap.size, 0, none⟩ = some (.int .u64 0) := hR.cell 0
      have q0 : wr.frozen? ⟨w.heap.size, 0, none⟩ = false := hR.frozen 0
      have r1 : wr.cell? ⟨w.heap.size, 1, none⟩ = some (.int .u64 0) := hR.cell 1
      have q1 : wr.frozen? ⟨w.heap.size, 1, none⟩ = false := hR.frozen 1
      have r2 : wr.cell? ⟨w.heap.size, 2, none⟩ = some (.int .u64 0) := hR.cell 2
      have q2 : wr.frozen? ⟨w.heap.size, 2, none⟩ = false := hR.frozen 2
      have r3 : wr.cell? ⟨w.heap.size, 3, none⟩ = some (.int .u64 0) := hR.cell 3
      have q3 : wr.frozen? ⟨w.heap.size, 3, none⟩ = false := hR.frozen 3
      rw [List.take_length] at hS
      have HX := Lib.hid (And.intro hS hbel)
      clear hS hbel hR hA
      go_wp2
      exact bodyPost_ret (by simp [results, Tryd.results28, go_sem, r0, r1, r2, r3]; rfl) rfl ⟨by rw [HX.out.1]; rfl, (((HX.out.2.setCell (p := ⟨w.heap.size, 0, none⟩) (Nat.le_refl _) _).setCell (p := ⟨w.heap.size, 1, none⟩) (Nat.le_refl _) _).setCell (p := ⟨w.heap.size, 2, none⟩) (Nat.le_refl _) _).setCell (p := ⟨w.heap.size, 3, none⟩) (Nat.le_refl _) _⟩
/-! The plain law of the walk. -/
def sameTo (S T : List Nat) (i : Nat) : Bool := (List.range i).all fun j => hasB S j == hasB T j
theorem sameTo_succ (S T : List Nat) (i : Nat) : sameTo S T (i + 1) = (sameTo S T i && (hasB S i == hasB T i)) := by
  unfold sameTo; rw [List.range_succ, List.all_append]; simp
theorem sameTo_all {S T : List Nat} (hS : wfB S) (hT : wfB T) : sameTo S T 256 = decide (S = T) := by
  rw [Bool.eq_iff_iff, decide_eq_true_eq]
  unfold sameTo
  constructor
  · intro h
    refine ext_has hS hT fun i hi => ?_
    have := List.all_eq_true.1 h i (List.mem_range.2 hi)
    simpa using this
  · rintro rfl
    exact List.all_eq_true.2 fun i _ => by simp
/-- Where the walk over the list stands. -/
def AtR (S : List Nat) (i : Nat) (v : Int) : Prop := ∃ m, NextR S m v ∧ lstTo S m = (lst S).take i ∧ m ≤ 256 ∧ i ≤ (lst S).length
theorem at_zero {S : List Nat} {v : Int} (h : NextR S 0 v) : AtR S 0 v := ⟨0, h, by simp [lstTo], by omega, Nat.zero_le _⟩
theorem at_step {S : List Nat} {i : Nat} {v : Int} (h : AtR S i v) (hi : i < (lst S).length) : ∃ j : Nat, v = j ∧ j < 256 ∧ (lst S).getD i 0 = j ∧ hasB S j = true ∧ ∀ u, NextR S (j + 1) u → AtR S (i + 1) u := by
  obtain ⟨m, h1, h2, h3, h4⟩ := h
  rcases next_lst h1 h3 with ⟨_, h5⟩ | ⟨j, rfl, h6, h7, h8, h9⟩
  · have := congrArg List.length (h5.trans h2)
    simp at this; omega
  · rw [h2] at h8
    obtain ⟨R, hR⟩ := lstTo_pre S (j + 1) 256 (by omega)
    rw [h8] at hR
    have hl : ((lst S).take i).length = i := by simp; omega
    have hR' : lst S = (lst S).take i ++ [j] ++ R := hR
    have h10 : (lst S)[i]? = some j := by
      rw [hR', List.append_assoc, List.getElem?_append_right (by rw [hl]; exact Nat.le_refl _), hl]; simp
    have h11 : (lst S).take (i + 1) = (lst S).take i ++ [j] := by rw [List.take_add_one, h10]; rfl
    refine ⟨j, rfl, h7, by rw [List.getD_eq_getElem?_getD, h10]; rfl, h9, fun u hu => ⟨j + 1, hu, by rw [h8, h11], by omega, by omega⟩⟩
theorem at_end {S : List Nat} {v : Int} (h : AtR S (lst S).length v) : v = -1 := by
  obtain ⟨m, h1, h2, h3, _⟩ := h
  rcases next_lst h1 h3 with ⟨h4, _⟩ | ⟨j, rfl, h6, h7, h8, h9⟩
  · exact h4
  · rw [h2, List.take_length] at h8
    obtain ⟨R, hR⟩ := lstTo_pre S (j + 1) 256 (by omega)
    have := congrArg List.length hR
    have h10 := congrArg List.length h8
    have h11 : (lst S).length = (lstTo S 256).length := rfl
    simp at this h10; omega
/-- min, closed to the walk. -/
def imin (x y : Int) : Int := if y < x then y else x
theorem imin_nat (x y : Nat) : imin x y = ((min x y : Nat) : Int) := by unfold imin; split <;> omega
end Go.Proofs.YtikoabnonmkhkaaDoor
