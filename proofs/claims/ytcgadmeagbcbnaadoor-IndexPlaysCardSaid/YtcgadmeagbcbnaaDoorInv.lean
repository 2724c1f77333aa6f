/- A region that draws its order, by what holds when any set of its operations has come up: each operation is walked once. No condition. -/
import Derived.Test.YtcgadmeagbcbnaaDoorLat
namespace Go.Proofs.YtcgadmeagbcbnaaDoor
open Go.RowKit

theorem cnt_set (f : Nat → Bool) (i : Nat) (hf : f i = true) : ∀ n, i < n → (List.range n).countP (fun j => f j && j != i) + 1 = (List.range n).countP f := by
  intro n
  induction n with
  | zero => intro h; omega
  | succ n ih =>
    intro h
    rw [List.range_succ, List.countP_append, List.countP_append]
    by_cases e : i = n
    · subst e
      have : (List.range i).countP (fun j => f j && j != i) = (List.range i).countP f := by
        apply List.countP_congr
        intro j hj
        have := List.mem_range.1 hj
        simp [show j ≠ i from by omega]
      rw [this]
      simp [hf]
    · have := ih (by omega)
      have e2 : List.countP (fun j => f j && j != i) [n] = List.countP f [n] := by simp [show n ≠ i from fun h => e h.symm]
      omega

section
variable {P : Program} {ops : Array Oper} {Q : Exit → Act → World → Prop}

theorem all_listed {listed : Array Bool} (hac : ∀ i o, ops[i]? = some o → ∀ e ∈ o.after, Region.binds .any e = true → e.on < i) (hsz : listed.size = ops.size) (h : Region.ready .any ops listed = []) :
    ∀ n i, i < n → i < ops.size → listed.getD i false = true := by
  intro n
  induction n with
  | zero => intro i hi; omega
  | succ n ih =>
    intro i hi his
    cases hl : listed.getD i false with
    | true => rfl
    | false =>
      exfalso
      have hlt : i < listed.size := by omega
      have : i ∈ Region.ready .any ops listed := by
        refine mem_ready.2 ⟨?_, ops[i], by simp [his], fun e he hb => ?_⟩
        · have := hl; simp [hlt] at this ⊢; exact this
        · have := hac i ops[i] (by simp [his]) e he hb
          exact ih e.on (by omega) (by omega)
      rw [h] at this
      cases this

theorem any_inv (Inv : (Nat → Bool) → Act → World → Prop)
    (hac : ∀ i o, ops[i]? = some o → ∀ e ∈ o.after, Region.binds .any e = true → e.on < i)
    (hstep : ∀ i o, ops[i]? = some o → ∀ l a w, Inv l a w → l i = false → (∀ e ∈ o.after, Region.binds .any e = true → l e.on = true) → wpOp P ops Q i (fun a' w' => Inv (fun j => j == i || l j) a' w') a w)
    (hend : ∀ l a w, Inv l a w → (∀ i, i < ops.size → l i = true) → Q .normal a w) :
    ∀ (fuel : Nat) (listed : Array Bool) (a : Act) (w : World), listed.size = ops.size → (List.range ops.size).countP (fun i => !listed.getD i false) = fuel → Inv (fun j => listed.getD j false) a w → wpAny P .any ops Q fuel listed a w := by
  intro fuel
  induction fuel with
  | zero =>
    intro listed a w hsz hc hI
    have hall : ∀ i, i < ops.size → listed.getD i false = true := by
      intro i hi
      have := List.countP_eq_zero.1 hc i (List.mem_range.2 hi)
      cases h : listed.getD i false with
      | true => rfl
      | false => exact absurd (by rw [h]; rfl) this
    refine ⟨?_, hend _ _ _ hI hall⟩
    cases hr : Region.ready .any ops listed with
    | nil => rfl
    | cons i r =>
      exfalso
      have hm : i ∈ Region.ready .any ops listed := by rw [hr]; exact List.mem_cons_self
      obtain ⟨h1, o, ho, _⟩ := mem_ready.1 hm
      have hi : i < ops.size := (Array.getElem?_eq_some_iff.1 ho).1
      have h2 := hall i hi
      have hlt : i < listed.size := by omega
      simp [hlt] at h1 h2
      rw [h1] at h2; cases h2
  | succ fuel ih =>
    intro listed a w hsz hc hI
    refine ⟨fun h0 => hend _ _ _ hI (fun i hi => all_listed hac hsz h0 (i + 1) i (by omega) hi), fun i hm => ?_⟩
    obtain ⟨h1, o, ho, hall⟩ := mem_ready.1 hm
    have hi : i < ops.size := (Array.getElem?_eq_some_iff.1 ho).1
    have hlt : i < listed.size := by omega
    have hl : listed.getD i false = false := by simp [hlt] at h1 ⊢; exact h1
    have hset : ∀ j, (listed.setIfInBounds i true).getD j false = (j == i || listed.getD j false) := by
      intro j
      by_cases e : j = i
      · subst e; simp [hlt]
      · simp [e, Array.getElem?_setIfInBounds_ne (show i ≠ j from fun h => e h.symm)]
    refine wpOp_mono (fun a' w' hI' => ih _ a' w' (by simp [hsz]) ?_ ?_) (hstep i o ho _ a w hI hl hall)
    · have h3 := cnt_set (fun j => !listed.getD j false) i (by simp only [hl]; rfl) ops.size hi
      have h4 : (List.range ops.size).countP (fun j => !(listed.setIfInBounds i true).getD j false) = (List.range ops.size).countP (fun j => !listed.getD j false && j != i) := by
        apply List.countP_congr
        intro j _
        rw [hset]
        by_cases e : j = i <;> simp [e]
      omega
    · have : (fun j => (listed.setIfInBounds i true).getD j false) = (fun j => j == i || listed.getD j false) := funext hset
      rw [this]; exact hI'

/-- No operation waits for a later one, as a Bool. -/
def acB (ops : Array Oper) : Bool := (List.range ops.size).all fun i => match ops[i]? with | some o => o.after.all fun e => !Region.binds .any e || decide (e.on < i) | none => true
theorem acB_spec (h : acB ops = true) : ∀ i o, ops[i]? = some o → ∀ e ∈ o.after, Region.binds .any e = true → e.on < i := by
  intro i o ho e he hb
  have h1 := List.all_eq_true.1 h i (List.mem_range.2 (Array.getElem?_eq_some_iff.1 ho).1)
  rw [ho] at h1
  have h2 := Array.all_eq_true'.1 h1 e he
  simpa [hb] using h2

theorem wp_region_inv {id : Nat} {a : Act} {w : World} (Inv : (Nat → Bool) → Act → World → Prop) (hm : P.follows .mixedOrders = true)
    (hac : ∀ i o, ops[i]? = some o → ∀ e ∈ o.after, Region.binds .any e = true → e.on < i)
    (h0 : Inv (fun _ => false) a { w with drawn := w.drawn + 1 })
    (hstep : ∀ i o, ops[i]? = some o → ∀ l a w, Inv l a w → l i = false → (∀ e ∈ o.after, Region.binds .any e = true → l e.on = true) → wpOp P ops Q i (fun a' w' => Inv (fun j => j == i || l j) a' w') a w)
    (hend : ∀ l a w, Inv l a w → (∀ i, i < ops.size → l i = true) → Q .normal a w) : (Code.region id ops true).wp P Q a w := by
  refine wp_region_any hm (any_inv Inv hac hstep hend _ _ _ _ (by simp) ?_ ?_)
  · rw [List.countP_eq_length.2]
    · simp
    · intro j hj
      have := List.mem_range.1 hj
      simp [this]
  · have : (fun j => (Array.replicate ops.size false).getD j false) = (fun _ : Nat => false) := funext fun j => by
      rcases Nat.lt_or_ge j ops.size with h | h
      · simp [h]
      · simp [h]
    rw [this]; exact h0
end
end Go.Proofs.YtcgadmeagbcbnaaDoor
