/- A map whose keys are pairs of numbers, over one word on its state. No condition. -/
import Derived.Test.YtcgadmeagbcbnaaDoorBase
import Derived.Maps.OwnSet
import Derived.Maps.Views
import Derived.WideKeyPair
namespace Go.Proofs.YtcgadmeagbcbnaaDoor
open Go.ChangeShapes Go.WideShapes Go.ChangeMaps Go.WideMaps

theorem keyArr : ArrKey Tryd.prog 86 3 2 := ⟨by kernel_rfl, by kernel_rfl, by kernel_rfl, by kernel_rfl⟩
theorem keyKd : Maps.Keyed Tryd.prog 86 := Maps.Keyed.of_law keyArr.law
def pairV (k e : Int) : Value := .agg #[.int .i64 k, .int .i64 e]
def wf2 (k e : Int) : Prop := (Lit.int .i64 k).wf = true ∧ (Lit.int .i64 e).wf = true
def kl (k e : Int) : Lit := .string (keyBytes [.int .i64 k, .int .i64 e])
theorem typesSize : ∃ m, Tryd.prog.types.size = m + 1 := ⟨Tryd.prog.types.size - 1, by kernel_rfl⟩
theorem keyOf_kl {k e : Int} (h : wf2 k e) : keyOf Tryd.prog 86 (pairV k e) = some (kl k e) := keyOf_pair keyArr Tryd.underlying3 typesSize h.1 h.2
theorem kl_key {k e : Int} (h : wf2 k e) : WideAt.IsKeyLit (kl k e) := keyKd.key (keyOf_kl h)
theorem kl_inj {k e k' e' : Int} (h : wf2 k e) (h' : wf2 k' e') (hk : kl k e = kl k' e') : k = k' ∧ e = e' := by
  have h1 := keyOf_kl h
  have h2 := keyOf_kl h'
  rw [hk] at h1
  have h3 := keyKd.inj h1 h2
  unfold pairV at h3
  injection h3 with h3
  injection h3 with h3
  injection h3 with h4 h5
  injection h4 with _ h4
  injection h5 with h5 _
  injection h5 with _ h5
  exact ⟨h4, h5⟩
/-- Block M of w is a map of at most n entries that reads as f. -/
def MapAt (w : World) (M n : Nat) (f : Int → Int → Option Int) : Prop :=
  ∃ D : DataW Unit, w.ownsMap Tryd.prog 86 (plainElem Tryd.prog 3) M n D ∧ Maps.IsMap D ∧ ∀ k e, wf2 k e → Maps.has D (kl k e) = (f k e).isSome ∧ D.atKey (kl k e) (.lit (.int .i64 0)) = .lit (.int .i64 ((f k e).getD 0))
section
variable {w w' : World} {M n : Nat} {f : Int → Int → Option Int}
theorem MapAt.lt (h : MapAt w M n f) : M < w.heap.size := by obtain ⟨D, h, _⟩ := h; exact h.lt
theorem MapAt.block (h : MapAt w M n f) (hb : w'.heap[M]? = w.heap[M]?) : MapAt w' M n f := by
  obtain ⟨D, ⟨es, c, h1, h2⟩, h3⟩ := h
  exact ⟨D, ⟨es, c, hb.trans h1, h2⟩, h3⟩
theorem MapAt.made (w : World) : MapAt (w.alloc (.map #[] 0)) w.heap.size 0 (fun _ _ => none) :=
  ⟨.map [], World.ownsMap_made _ _ _ _, Maps.isMap_empty, fun _ _ _ => ⟨rfl, rfl⟩⟩
def putF (f : Int → Int → Option Int) (k e v : Int) : Int → Int → Option Int := fun k' e' => if k' = k ∧ e' = e then some v else f k' e'
theorem MapAt.store (h : MapAt w M n f) (hn : n < maxLen) {k e v : Int} (hk : wf2 k e) (hv : (Lit.int .i64 v).wf = true) :
    ∃ w', (Instr.mapUpdate 82 (.map (some M)) (.agg #[.int .i64 k, .int .i64 e]) (.int .i64 v)).run Tryd.prog w = .ok () w' ∧ MapAt w' M (n + 1) (putF f k e v) ∧ w.grownBy w' (some M) := by
  obtain ⟨D, h1, h2, h3⟩ := h
  obtain ⟨w', r1, r2, r3⟩ := h1.update keyKd Tryd.underlying82 hn (keyOf_kl hk) (plainElem_int Tryd.underlying3 hv)
  refine ⟨w', r1, ⟨_, r2, h2.put _ _, fun k' e' hk' => ?_⟩, r3⟩
  unfold putF
  by_cases hh : k' = k ∧ e' = e
  · obtain ⟨rfl, rfl⟩ := hh
    rw [if_pos ⟨rfl, rfl⟩]
    exact ⟨Maps.has_put_same h2 (kl_key hk) _, Maps.atKey_put_same h2 (kl_key hk) _ _⟩
  · rw [if_neg hh]
    have hne : kl k' e' ≠ kl k e := fun he => hh (kl_inj hk' hk he)
    exact ⟨(Maps.has_put_other hne _).trans (h3 k' e' hk').1, (Maps.atKey_put_other hne _ _).trans (h3 k' e' hk').2⟩
theorem look_eq {r : Int → Bool → Prop} (d : DataW Unit) (c c' : Int) (b b' : Bool) (h1 : d = .lit (.int .i64 c)) (h2 : d = .lit (.int .i64 c')) (h3 : b = b') (h : r c b) : r c' b' := by
  rw [h1] at h2
  injection h2 with h2
  injection h2 with _ h2
  rw [← h2, ← h3]
  exact h
theorem MapAt.look (h : MapAt w M n f) {k e : Int} (hk : wf2 k e) :
    (Instr.lookup 82 (.map (some M)) (.agg #[.int .i64 k, .int .i64 e]) true).run Tryd.prog w = .ok (.tuple #[.int .i64 ((f k e).getD 0), .bool (f k e).isSome]) w := by
  obtain ⟨D, h1, h2, h3⟩ := h
  obtain ⟨v, ps, r1, r2⟩ := h1.look_ok keyKd Tryd.underlying82 (z := .int .i64 0) (by kernel_rfl) (plainElem_int Tryd.underlying3 (by decide)) (keyOf_kl hk)
  obtain ⟨c, rfl, hc, hwc⟩ := plainElem_int_inv Tryd.underlying3 r2
  simp only [Prod.mk.injEq] at hc
  have h4 := h3 k e hk
  exact look_eq (r := fun c b => (Instr.lookup 82 (.map (some M)) (.agg #[.int .i64 k, .int .i64 e]) true).run Tryd.prog w = .ok (.tuple #[.int .i64 c, .bool b]) w) (D.atKey (kl k e) (.lit (.int .i64 0))) c ((f k e).getD 0) (Maps.has D (kl k e)) (f k e).isSome hc.1 h4.2 h4.1 r1
end
end Go.Proofs.YtcgadmeagbcbnaaDoor
