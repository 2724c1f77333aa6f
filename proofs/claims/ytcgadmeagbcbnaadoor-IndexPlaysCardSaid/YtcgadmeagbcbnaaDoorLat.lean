/- 'lat w u': a later world, in which all that lay in w lies as it lay (u itself, if it is such a one). A contract that says 'Below' is said by it, and the walk's rules see through it. And: a region that draws its order, whose operations read and whose callees only make new memory, walked once. No condition. -/
import Derived.Test.YtcgadmeagbcbnaaDoorBase
namespace Go.Proofs.YtcgadmeagbcbnaaDoor
open Go.RowKit

section
variable (n : Nat)
@[go_sem] theorem lt_plus2 : (n < n + 1 + 1) = True := eq_true (by omega)
@[go_sem] theorem lt_plus3 : (n < n + 1 + 1 + 1) = True := eq_true (by omega)
@[go_sem] theorem lt_plus4 : (n < n + 1 + 1 + 1 + 1) = True := eq_true (by omega)
@[go_sem] theorem lt_plus5 : (n < n + 1 + 1 + 1 + 1 + 1) = True := eq_true (by omega)
@[go_sem] theorem lt_plus6 : (n < n + 1 + 1 + 1 + 1 + 1 + 1) = True := eq_true (by omega)
@[go_sem] theorem lt_plus7 : (n < n + 1 + 1 + 1 + 1 + 1 + 1 + 1) = True := eq_true (by omega)
@[go_sem] theorem lt_plus8 : (n < n + 1 + 1 + 1 + 1 + 1 + 1 + 1 + 1) = True := eq_true (by omega)
@[go_sem] theorem le_plus1 : (n ≤ n + 1) = True := eq_true (by omega)
@[go_sem] theorem le_plus2 : (n ≤ n + 1 + 1) = True := eq_true (by omega)
@[go_sem] theorem le_plus3 : (n ≤ n + 1 + 1 + 1) = True := eq_true (by omega)
@[go_sem] theorem le_plus4 : (n ≤ n + 1 + 1 + 1 + 1) = True := eq_true (by omega)
@[go_sem] theorem le_plus5 : (n ≤ n + 1 + 1 + 1 + 1 + 1) = True := eq_true (by omega)
@[go_sem] theorem le_plus6 : (n ≤ n + 1 + 1 + 1 + 1 + 1 + 1) = True := eq_true (by omega)
@[go_sem] theorem le_plus7 : (n ≤ n + 1 + 1 + 1 + 1 + 1 + 1 + 1) = True := eq_true (by omega)
@[go_sem] theorem le_plus8 : (n ≤ n + 1 + 1 + 1 + 1 + 1 + 1 + 1 + 1) = True := eq_true (by omega)
end

open Classical in
noncomputable def lat (w u : World) : World := if Below w.heap.size w u then u else w
theorem bel_lat0 (w u : World) : Below w.heap.size w (lat w u) := by
  unfold lat; split
  · assumption
  · exact Below.refl _ _
theorem lat_of {w w' : World} (h : Below w.heap.size w w') : ∃ u, w' = lat w u := ⟨w', by unfold lat; rw [if_pos h]⟩
theorem bel_lat {B : Nat} {a w : World} (h : Below B a w) (hB : B ≤ w.heap.size) (u : World) : Below B a (lat w u) := h.trans ((bel_lat0 w u).mono hB)
section
variable (w u : World) (n i : Nat)
@[go_sem] theorem cell?_lat (h : n < w.heap.size) : (lat w u).cell? ⟨n, i, none⟩ = w.cell? ⟨n, i, none⟩ := (bel_lat0 w u).cell (p := ⟨n, i, none⟩) h
@[go_sem] theorem frozen?_lat (h : n < w.heap.size) : (lat w u).frozen? ⟨n, i, none⟩ = w.frozen? ⟨n, i, none⟩ := (bel_lat0 w u).frozen (p := ⟨n, i, none⟩) h
@[go_sem] theorem heap_lat (h : n < w.heap.size) : (lat w u).heap[n]? = w.heap[n]? := (bel_lat0 w u).block n h
theorem size_lat : w.heap.size ≤ (lat w u).heap.size := (bel_lat0 w u).size
@[go_sem] theorem lt_lat (h : n < w.heap.size) : (n < (lat w u).heap.size) = True := eq_true (Nat.lt_of_lt_of_le h (size_lat w u))
@[go_sem] theorem lt_lat1 (h : n < w.heap.size) (k : Nat) : (n < (lat w u).heap.size + k) = True := eq_true (by have := size_lat w u; omega)
@[go_sem] theorem le_lat (h : n < w.heap.size + 1) : (n ≤ (lat w u).heap.size) = True := eq_true (by have := size_lat w u; omega)
@[go_sem] theorem le_lat1 (h : n < w.heap.size + 1) (k : Nat) : (n ≤ (lat w u).heap.size + k) = True := eq_true (by have := size_lat w u; omega)
@[go_sem] theorem ne_lat (h : n < w.heap.size) : (n = (lat w u).heap.size) = False := eq_false (by have := size_lat w u; omega)
@[go_sem] theorem ne_lat' (h : n < w.heap.size) : ((lat w u).heap.size = n) = False := eq_false (by have := size_lat w u; omega)
@[go_sem] theorem ne_lat1 (h : n < w.heap.size) (k : Nat) : (n = (lat w u).heap.size + k) = False := eq_false (by have := size_lat w u; omega)
@[go_sem] theorem ne_lat1' (h : n < w.heap.size) (k : Nat) : ((lat w u).heap.size + k = n) = False := eq_false (by have := size_lat w u; omega)
end

noncomputable def lat2 (w u u' : World) : World := lat (lat w u) u'
@[go_sem] theorem lat_lat (w u u' : World) : lat (lat w u) u' = lat w (lat2 w u u') := by
  have h : Below w.heap.size w (lat2 w u u') := (bel_lat0 w u).trans ((bel_lat0 (lat w u) u').mono (size_lat w u))
  show lat2 w u u' = _
  rw [show lat w (lat2 w u u') = lat2 w u u' from by unfold lat; rw [if_pos h]]
noncomputable def latd (w u : World) : World := (lat w u).drew
@[go_sem] theorem drew_lat (w u : World) : (lat w u).drew = lat w (latd w u) := by
  have h : Below w.heap.size w (latd w u) := (bel_lat0 w u).drew
  show latd w u = _
  rw [show lat w (latd w u) = latd w u from by unfold lat; rw [if_pos h]]

/-- A contract that says 'Below', said by 'lat'. -/
theorem calls_lat {P : Program} {f : FuncId} {args : Array Value} {w : World} {v : Value} (h : Calls P f args w fun e w' => e = .returned v ∧ Below w.heap.size w w') :
    Calls P f args w fun e w' => e = .returned v ∧ ∃ u, lat w u = w' := h.mono fun _ _ ⟨he, hb⟩ => ⟨he, (lat_of hb).imp fun _ h => h.symm⟩

/-- A quiet call inside a region that draws its order, the callee making new memory at most. -/
theorem quiet_lat {P : Program} {f : FuncId} {args : Array Value} {w u : World} {v : Value}
    (h : Calls P f args (lat w u) fun e w' => e = .returned v ∧ Below (lat w u).heap.size (lat w u) w') : Calls P f args (lat w u) fun e w'' => e = .returned v ∧ ∃ u', w'' = lat w u' :=
  h.mono fun _ _ ⟨he, hb⟩ => ⟨he, lat_of ((bel_lat0 w u).trans (hb.mono (size_lat w u)))⟩
theorem quiet_lat_same {P : Program} {f : FuncId} {args : Array Value} {w u : World} {v : Value}
    (h : Calls P f args (lat w u) fun e w' => e = .returned v ∧ lat w u = w') : Calls P f args (lat w u) fun e w'' => e = .returned v ∧ ∃ u', w'' = lat w u' :=
  h.mono fun _ _ ⟨he, hb⟩ => ⟨he, u, hb.symm⟩

/-! What a walk's end asks: all that lay in a lies as it lay. -/
theorem fb_lat {a w : World} (h : Below a.heap.size a w) (u : World) : Below a.heap.size a (lat w u) := bel_lat h h.size u
theorem fb_alloc {a w : World} (h : Below a.heap.size a w) (o : Obj) : Below a.heap.size a (w.alloc o) := h.alloc h.size o
theorem fb_drew {a w : World} (h : Below a.heap.size a w) : Below a.heap.size a w.drew := h.drew
theorem fb_drewN {a w : World} (h : Below a.heap.size a w) (n : Nat) : Below a.heap.size a (w.drewN n) := bel_drewN h n
theorem fb_set {a w : World} (h : Below a.heap.size a w) {p : Addr} (hp : a.heap.size ≤ p.block) (u : Value) : Below a.heap.size a (w.setCell p u) := h.setCell hp u
theorem fb_call {a w w' : World} (h : Below a.heap.size a w) (h' : Below w.heap.size w w') : Below a.heap.size a w' := h.trans (h'.mono h.size)

/-- A region that draws its order, whose operations read and whose callees make new memory at most. -/
theorem wp_region_lat {P : Program} {id : Nat} {Q : Exit → Act → World → Prop} {a : Act} {w : World} {l : List Oper} (hm : P.follows .mixedOrders = true) (hB : Region.lexB .any l.toArray = true)
    (h : wpQuiet P l.toArray (fun w' => ∃ u, w' = lat w u) (fun a' => ∀ w', (∃ u, w' = lat w u) → Q .normal a' w') l a) : (Code.region id l.toArray true).wp P Q a w :=
  wp_region_quiet (C := fun w' => ∃ u, w' = lat w u) hm hB (lat_of ⟨rfl, rfl, rfl, Nat.le_refl _, fun _ _ => rfl⟩) (by simpa using h)

end Go.Proofs.YtcgadmeagbcbnaaDoor
