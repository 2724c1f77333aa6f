/- The chapter's three cards; what an index has at its beginning. No condition. -/
import Derived.Test.YtcgadmeagbcbnaaDoorIdxInts
namespace Go.Proofs.YtcgadmeagbcbnaaDoor
open Go.RowKit
attribute [local irreducible] Calls

def abs3 : List (List (Int × Int)) := [[], [(3, 2)], [(3, 2), (4, 0)]]
def M0 : IM := ⟨List.replicate 256 0, fun _ => [0, 0, 0, 0]⟩
theorem wf_lit {k e : Int} (h : (decide (-1000 ≤ k) && decide (k ≤ 1000) && decide (-1000 ≤ e) && decide (e ≤ 1000)) = true) : wf2 k e := by
  simp only [Bool.and_eq_true, decide_eq_true_eq] at h
  refine ⟨?_, ?_⟩ <;> (simp [Lit.wf, IntKind.min, IntKind.max, IntKind.signed, IntKind.bits]; omega)
theorem good_zero (abs : List (List (Int × Int))) : IGood abs M0 := by
  have hH : ∀ i, (List.replicate 256 (0 : Int)).getD i 0 = 0 := fun i => by rw [List.getD_eq_getElem?_getD, List.getElem?_replicate]; split <;> rfl
  refine ⟨by show (List.replicate 256 (0 : Int)).length = 256; rw [List.length_replicate], fun s _ => wf_zero, fun i _ => ?_, fun s hs _ i _ => ?_⟩
  · show 0 ≤ (List.replicate 256 (0 : Int)).getD i 0 ∧ (List.replicate 256 (0 : Int)).getD i 0 ≤ 40
    rw [hH]; omega
  · show hasS [0, 0, 0, 0] i = hasK (absOf abs ((List.replicate 256 (0 : Int)).getD i 0 - 1)) s
    rw [hH, has_zero, absOf_out (by omega)]; rfl
theorem abs3_len : abs3.length ≤ 1000 := by decide
theorem abs3_five : ∀ i, i < abs3.length → (abs3.getD i []).length ≤ 5 := by decide
theorem abs3_wf : ∀ i, i < abs3.length → ∀ q ∈ abs3.getD i [], wf2 q.1 q.2 := fun i hi q hq => by
  have h : ∀ i, i < 3 → ∀ q ∈ abs3.getD i [], (decide (-1000 ≤ q.1) && decide (q.1 ≤ 1000) && decide (-1000 ≤ q.2) && decide (q.2 ≤ 1000)) = true := by decide
  exact wf_lit (h i hi q hq)
theorem POut.base {w W W' : World} {v : Value} {vs : List Value} {L : List (List (Int × Int))} (h : POut W W' v vs L) (hb : Below w.heap.size w W) : POut w W' v vs L :=
  ⟨fb_call hb h.bel, ownL_mono h.row hb.size, h.len, fun i hi => ownL_mono (h.each i hi) hb.size⟩
def W3 (w : World) : World := ((((w.alloc (.cells #[] 78)).alloc (.cells #[.int .i64 3, .int .i64 2] 78)).alloc (.cells #[.int .i64 3, .int .i64 2, .int .i64 4, .int .i64 0] 78)).alloc
  (.cells #[.slice (some ⟨w.heap.size, 0, none⟩) 0 0, .slice (some ⟨w.heap.size + 1, 0, none⟩) 1 1, .slice (some ⟨w.heap.size + 1 + 1, 0, none⟩) 2 2] 76))
theorem w3_bel (w : World) : Below w.heap.size w (W3 w) := fb_alloc (fb_alloc (fb_alloc (fb_alloc (Below.refl _ _) _) _) _) _
theorem w3_hss (w : World) : Hss (W3 w) (W3 w).heap.size (.slice (some ⟨w.heap.size + 1 + 1 + 1, 0, none⟩) 3 3) abs3 := by
  have hs : (W3 w).heap.size = w.heap.size + 1 + 1 + 1 + 1 := by unfold W3; simp only [World.size_alloc]
  have A1 := Arr.new (w.alloc (.cells #[] 78)) 78 [.int .i64 3, .int .i64 2]
  have A2 := Arr.new ((w.alloc (.cells #[] 78)).alloc (.cells #[.int .i64 3, .int .i64 2] 78)) 78 [.int .i64 3, .int .i64 2, .int .i64 4, .int .i64 0]
  have A3 := Arr.new (((w.alloc (.cells #[] 78)).alloc (.cells #[.int .i64 3, .int .i64 2] 78)).alloc (.cells #[.int .i64 3, .int .i64 2, .int .i64 4, .int .i64 0] 78)) 76
    [.slice (some ⟨w.heap.size, 0, none⟩) 0 0, .slice (some ⟨w.heap.size + 1, 0, none⟩) 1 1, .slice (some ⟨w.heap.size + 1 + 1, 0, none⟩) 2 2]
  simp only [World.size_alloc] at A1 A2 A3
  have B1 : Arr (W3 w) _ _ _ := (Arr.alloc A1 _).alloc _
  have B2 : Arr (W3 w) _ _ _ := Arr.alloc A2 _
  have B3 : Arr (W3 w) _ _ _ := A3
  refine ⟨_, _, rfl, .inr ⟨w.heap.size + 1 + 1 + 1, 0, rfl, by omega, fun i hi => ?_⟩⟩
  have hi3 : i < 3 := hi
  match i, hi3 with
  | 0, _ => exact ⟨_, _, B3.cell 0, .inl rfl⟩
  | 1, _ =>
    refine ⟨_, _, B3.cell 1, .inr ⟨w.heap.size + 1, 0, rfl, by omega, fun j hj => ?_⟩⟩
    have hj1 : j < 1 := hj
    match j, hj1 with
    | 0, _ => exact ⟨B1.cell 0, B1.cell 1⟩
  | 2, _ =>
    refine ⟨_, _, B3.cell 2, .inr ⟨w.heap.size + 1 + 1, 0, rfl, by omega, fun j hj => ?_⟩⟩
    have hj2 : j < 2 := hj
    match j, hj2 with
    | 0, _ => exact ⟨B2.cell 0, B2.cell 1⟩
    | 1, _ => exact ⟨B2.cell 2, B2.cell 3⟩
set_option maxRecDepth 100000 in
theorem three_any (w : World) : Calls Tryd.prog 29 #[] w fun e w' => ∃ u vs, e = .returned u ∧ POut w w' u vs abs3 := by
  have HP := Lib.hid (pool_any (W3 w) _ abs3 (w3_hss w) (by decide))
  have HB := Lib.hid (w3_bel w)
  unfold W3 at HP HB
  go_enter Tryd.func29, Tryd.ntmps29
  go_wp2_with fail
  refine HP.out.mono ?_
  rintro e w1 ⟨u, vs, rfl, hp⟩
  have HO := Lib.hid (hp.base HB.out)
  clear hp HP HB
  go_wp2
  go_ret
  exact ⟨_, vs, rfl, HO.out⟩
end Go.Proofs.YtcgadmeagbcbnaaDoor
