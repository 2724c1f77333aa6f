/- The law's own walk: a set of a row of places. -/
import Derived.Test.YtikoabnonmkhkaaDoorBitsM
import Derived.Test.YtikoabnonmkhkaaDoorQTail
namespace Go.Proofs.YtikoabnonmkhkaaDoor
open Go.RowKit

def setOf (L : List Nat) : List Nat := L.foldl (fun (S : List Nat) (i : Nat) => addI S (i : Int)) [0, 0, 0, 0]
theorem wf_fold (L : List Nat) : ∀ S, wfB S → wfB (L.foldl (fun (S : List Nat) (i : Nat) => addI S (i : Int)) S) := by
  induction L with
  | nil => exact fun _ h => h
  | cons x L ih =>
    intro S h
    rw [List.foldl_cons]
    exact ih (addI S (x : Int)) (wf_addI h (x : Int))
theorem wf_setOf (L : List Nat) : wfB (setOf L) := by
  unfold setOf
  exact wf_fold L [0, 0, 0, 0] (wf_mk (by omega) (by omega) (by omega) (by omega))
theorem setOf_succ (L : List Nat) (k y : Nat) (h : L[k]? = some y) : setOf (L.take (k + 1)) = addI (setOf (L.take k)) (y : Int) := by
  unfold setOf
  rw [List.take_add_one, h, List.foldl_append]
  simp only [Option.toList_some, List.foldl_cons, List.foldl_nil]
set_option maxRecDepth 100000 in
set_option maxHeartbeats 2000000 in
theorem of_any (v : Value) (L : List Nat) (w : World) (hI : Ints w w.heap.size v (zl L)) (hl : L.length ≤ 1000) : Calls Tryd.prog 28 #[v] w fun e w' => e = .returned (svL (setOf L)) ∧ Below w.heap.size w w' := by
  obtain ⟨av, cv, rfl⟩ := ints_form hI
  have HI := Lib.hid hI
  clear hI
  have HR := Lib.hid (Arr.new w 24 [.int .u64 0, .int .u64 0, .int .u64 0, .int .u64 0])
  have HS := Lib.hid (Arr.new (w.alloc (.cells #[.int .u64 0, .int .u64 0, .int .u64 0, .int .u64 0] 24)) 24 [.int .u64 0, .int .u64 0, .int .u64 0, .int .u64 0])
  go_enter Tryd.func28, Tryd.ntmps28
  go_wp2
  go_loopw [4] (fun x wr => ∃ k : Nat, k ≤ L.length ∧ x = .int .i64 k ∧ Below w.heap.size w wr ∧ Arr wr w.heap.size 24 [.int .u64 0, .int .u64 0, .int .u64 0, .int .u64 0] ∧ ∃ a b c d : Nat, setOf (L.take k) = [a, b, c, d] ∧ Arr wr (w.heap.size + 1) 24 [.int .u64 a, .int .u64 b, .int .u64 c, .int .u64 d]) (fun x _ => L.length - (intOf x).toNat)
  case atStart =>
    have h2 := HS.out
    simp only [World.size_alloc] at h2
    exact ⟨0, by omega, rfl, fb_alloc (fb_alloc (Below.refl _ _) _) _, HR.out.alloc _, 0, 0, 0, 0, rfl, h2⟩
  case round =>
    obtain ⟨k, hk, rfl, hbel, hR, a, b, c, d, hS, hA⟩ := hrel
    have d0 : wr.cell? ⟨w.heap.size + 1, 0, none⟩ = some (.int .u64 a) := hA.cell 0
    have d1 : wr.cell? ⟨w.heap.size + 1, 1, none⟩ = some (.int .u64 b) := hA.cell 1
    have d2 : wr.cell? ⟨w.heap.size + 1, 2, none⟩ = some (.int .u64 c) := hA.cell 2
    have d3 : wr.cell? ⟨w.heap.size + 1, 3, none⟩ = some (.int .u64 d) := hA.cell 3
    by_cases hlt : k < L.length
    · obtain ⟨bl, o, cl, e, hb, hc⟩ := ints_cell HI.out hlt
      cases e
      have h1 := (hbel.cell (p := ⟨bl, o + k, none⟩) hb).trans (hc k hlt)
      obtain ⟨y, hy⟩ : ∃ y, L.getD k 0 = y := ⟨_, rfl⟩
      rw [hy] at h1
      have hi1 : (k : Int) < L.length := by omega
      have hi0 : (0 : Int) ≤ k := by omega
      have hw : wfB [a, b, c, d] := by rw [← hS]; exact wf_setOf _
      obtain ⟨a', b', c', d', hS', _⟩ := wf_form (wf_addI hw (y : Int))
      have hadd : ∀ W : World, Calls Tryd.prog 11 #[.agg #[.int .u64 a, .int .u64 b, .int .u64 c, .int .u64 d], .int .i64 (y : Int)] W fun e w' => e = .returned (.agg #[.int .u64 a', .int .u64 b', .int .u64 c', .int .u64 d']) ∧ Below W.heap.size W w' := fun W => by
        have := badd_any hw (y : Int) W
        rw [hS'] at this
        exact this
      have hgy : L[k]? = some y := by rw [← hy, List.getD_eq_getElem?_getD]; simp [hlt]
      have hnext : setOf (L.take (k + 1)) = [a', b', c', d'] := by rw [setOf_succ L k y hgy, hS, hS']
      have HX := Lib.hid (And.intro hbel (And.intro hR (And.intro hA hnext)))
      have HAD := Lib.hid hadd
      have g0 : ∀ u, (lat wr u).cell? ⟨w.heap.size + 1, 0, none⟩ = some (.int .u64 a) := fun u => (hA.below (bel_lat0 wr u) hA.lt).cell 0
      have g1 : ∀ u, (lat wr u).cell? ⟨w.heap.size + 1, 1, none⟩ = some (.int .u64 b) := fun u => (hA.below (bel_lat0 wr u) hA.lt).cell 1
      have g2 : ∀ u, (lat wr u).cell? ⟨w.heap.size + 1, 2, none⟩ = some (.int .u64 c) := fun u => (hA.below (bel_lat0 wr u) hA.lt).cell 2
      have g3 : ∀ u, (lat wr u).cell? ⟨w.heap.size + 1, 3, none⟩ = some (.int .u64 d) := fun u => (hA.below (bel_lat0 wr u) hA.lt).cell 3
      have g4 : ∀ u, (lat wr u).cell? ⟨bl, o + k, none⟩ = some (.int .i64 (y : Int)) := fun u => ((bel_lat0 wr u).cell (p := ⟨bl, o + k, none⟩) (World.block_lt_of_cell? _ _ h1)).trans h1
      clear hadd hnext hgy hw hS hS' hbel hR hA hc hy hb
      go_wp2
      refine wp_region_lat_tail 6 (by kernel_rfl) (by kernel_rfl) ?_
      simp only [List.take_succ_cons, List.take_zero, List.drop_succ_cons, List.drop_zero]
      repeat (go_big_quiet_step (first | (go_at_call 11; exact quiet_lat (HAD.out _))))
      refine wpQuiet_nil ?_
      intro _ hw'
      obtain ⟨nu, hw''⟩ := hw'
      subst hw''
      have hA2 := HX.out.2.2.1.below (bel_lat0 wr nu) HX.out.2.2.1.lt
      have f0 : (lat wr nu).frozen? ⟨w.heap.size + 1, 0, none⟩ = false := hA2.frozen 0
      have f1 : (lat wr nu).frozen? ⟨w.heap.size + 1, 1, none⟩ = false := hA2.frozen 1
      have f2 : (lat wr nu).frozen? ⟨w.heap.size + 1, 2, none⟩ = false := hA2.frozen 2
      have f3 : (lat wr nu).frozen? ⟨w.heap.size + 1, 3, none⟩ = false := hA2.frozen 3
      go_wp2
      go_roundw
      case rel =>
        have hbl := HX.out.1.trans ((bel_lat0 wr nu).mono HX.out.1.size)
        have hR2 := HX.out.2.1.below (bel_lat0 wr nu) HX.out.2.1.lt
        refine ⟨k + 1, by omega, by go_num, ?_, ?_, a', b', c', d', HX.out.2.2.2, ?_⟩
        · exact (((hbl.setCell (p := ⟨w.heap.size + 1, 0, none⟩) (Nat.le_succ _) _).setCell (p := ⟨w.heap.size + 1, 1, none⟩) (Nat.le_succ _) _).setCell (p := ⟨w.heap.size + 1, 2, none⟩) (Nat.le_succ _) _).setCell (p := ⟨w.heap.size + 1, 3, none⟩) (Nat.le_succ _) _
        · exact (((hR2.set_other _ _ (Nat.ne_of_lt (Nat.lt_succ_self _))).set_other _ _ (Nat.ne_of_lt (Nat.lt_succ_self _))).set_other _ _ (Nat.ne_of_lt (Nat.lt_succ_self _))).set_other _ _ (Nat.ne_of_lt (Nat.lt_succ_self _))
        · exact (((hA2.set 0 _).set 1 _).set 2 _).set 3 _
      case measure => simp [intOf]; omega
    · obtain rfl : k = L.length := by omega
      have r0 : wr.cell? ⟨w.heap.size, 0, none⟩ = some (.int .u64 0) := hR.cell 0
      have q0 : wr.frozen? ⟨w.heap.size, 0, none⟩ = false := hR.frozen 0
      have r1 : wr.cell? ⟨w.heap.size, 1, none⟩ = some (.int .u64 0) := hR.cell 1
      have q1 : wr.frozen? ⟨w.heap.size, 1, none⟩ = false := hR.frozen 1
      have r2 : wr.cell? ⟨w.heap.size, 2, none⟩ = some (.int .u64 0) := hR.cell 2
      have q2 : wr.frozen? ⟨w.heap.size, 2, none⟩ = false := hR.frozen 2
      have r3 : wr.cell? ⟨w.heap.size, 3, none⟩ = some (.int .u64 0) := hR.cell 3
      have q3 : wr.frozen? ⟨w.heap.size, 3, none⟩ = false := hR.frozen 3
      rw [List.take_length] at hS
      have HX := Lib.hid (And.intro hS hbel)
      clear hS hbel hR hA
      go_wp2
      exact bodyPost_ret (by simp [results, Tryd.results28, go_sem, r0, r1, r2, r3]; rfl) rfl ⟨by rw [HX.out.1]; rfl, (((HX.out.2.setCell (p := ⟨w.heap.size, 0, none⟩) (Nat.le_refl _) _).setCell (p := ⟨w.heap.size, 1, none⟩) (Nat.le_refl _) _).setCell (p := ⟨w.heap.size, 2, none⟩) (Nat.le_refl _) _).setCell (p := ⟨w.heap.size, 3, none⟩) (Nat.le_refl _) _⟩
end Go.Proofs.YtikoabnonmkhkaaDoor
