/- A region that draws its order, walked once an operation: each slot that it writes has a type (what its value is, in whatever world comes), and the calls that write are told in their order by a state. No condition. -/
import Derived.Test.YtcgadmeagbcbnaaDoorInv
namespace Go.Proofs.YtcgadmeagbcbnaaDoor
open Go.RowKit

section
variable {P : Program} {ops : Array Oper} {Q : Exit → Act → World → Prop}

/-- Where an operation writes. -/
def dstOf (ops : Array Oper) (i : Nat) : Option Nat := (ops[i]?).bind (·.dst)
/-- The frame when the operations l have come up, with these values. -/
structure FrameOf (ops : Array Oper) (a0 : Act) (l : Nat → Bool) (vs : Nat → Value) (a : Act) : Prop where
  defers : a.defers = a0.defers
  size : a.tmps.size = a0.tmps.size
  other : ∀ k, (∀ i, l i = true → dstOf ops i ≠ some k) → a.tmps[k]? = a0.tmps[k]?
  mine : ∀ i k, l i = true → dstOf ops i = some k → a.tmps[k]? = some (vs i)

/-- No two write one slot, and each slot is there. -/
def dstB (D : List (Option Nat)) (n : Nat) : Bool :=
  (List.range D.length).all fun i => match D.getD i none with
    | none => true
    | some k => decide (k < n) && (List.range D.length).all fun j => decide (i = j) || D.getD j none != some k
theorem dstB_lt {D : List (Option Nat)} {n : Nat} (h : dstB D n = true) {i k : Nat} (hi : D.getD i none = some k) : k < n := by
  by_cases hl : i < D.length
  · have := List.all_eq_true.1 h i (List.mem_range.2 hl)
    rw [hi] at this
    simp only [Bool.and_eq_true, decide_eq_true_eq] at this
    exact this.1
  · rw [List.getD_eq_getElem?_getD, List.getElem?_eq_none (by omega)] at hi; cases hi
theorem dstB_ne {D : List (Option Nat)} {n : Nat} (h : dstB D n = true) {i j k : Nat} (hi : D.getD i none = some k) (hj : D.getD j none = some k) : i = j := by
  by_cases hl : i < D.length
  · have := List.all_eq_true.1 h i (List.mem_range.2 hl)
    rw [hi] at this
    simp only [Bool.and_eq_true, decide_eq_true_eq] at this
    by_cases hl' : j < D.length
    · have := List.all_eq_true.1 this.2 j (List.mem_range.2 hl')
      rw [hj] at this
      simpa using this
    · rw [List.getD_eq_getElem?_getD, List.getElem?_eq_none (by omega)] at hj; cases hj
  · rw [List.getD_eq_getElem?_getD, List.getElem?_eq_none (by omega)] at hi; cases hi
theorem dstOf_getD {D : List (Option Nat)} (hD : ops.toList.map (·.dst) = D) (i : Nat) : dstOf ops i = D.getD i none := by
  subst hD
  unfold dstOf
  rw [List.getD_eq_getElem?_getD, List.getElem?_map, ← Array.getElem?_toList]
  cases ops.toList[i]? <;> rfl

theorem FrameOf.put {a0 a : Act} {l : Nat → Bool} {vs : Nat → Value} {D : List (Option Nat)} (hD : ops.toList.map (·.dst) = D) (hB : dstB D a0.tmps.size = true) (h : FrameOf ops a0 l vs a) {i : Nat} {o : Oper} (ho : ops[i]? = some o) (hl : l i = false) (v : Value) :
    FrameOf ops a0 (fun j => j == i || l j) (fun j => if j = i then v else vs j) (a.put o.dst v) := by
  have hd : dstOf ops i = o.dst := by unfold dstOf; rw [ho]; rfl
  cases e : o.dst with
  | none =>
    rw [e] at hd
    refine ⟨h.defers, h.size, fun k hk => h.other k fun j hj => hk j (by simp [hj]), fun j k hj hk => ?_⟩
    by_cases hji : j = i
    · subst hji; rw [hd] at hk; cases hk
    · rw [if_neg hji]; exact h.mine j k (by simpa [hji] using hj) hk
  | some d =>
    rw [e] at hd
    have hdn : d < a.tmps.size := by rw [h.size]; exact dstB_lt hB (by rw [← dstOf_getD hD i]; exact hd)
    refine ⟨h.defers, by simp [Act.put, h.size], fun k hk => ?_, fun j k hj hk => ?_⟩
    · have hne : d ≠ k := fun e' => hk i (by simp) (by rw [hd, e'])
      simp only [Act.put, Array.getElem?_setIfInBounds_ne hne]
      exact h.other k fun j hj => hk j (by simp [hj])
    · by_cases hji : j = i
      · subst hji
        rw [hd] at hk
        cases hk
        rw [if_pos rfl]
        simp [Act.put, hdn]
      · have hne : d ≠ k := fun e' => hji (dstB_ne hB (by rw [← dstOf_getD hD j]; exact hk) (by rw [← dstOf_getD hD i, hd, e']))
        rw [if_neg hji]
        simp only [Act.put, Array.getElem?_setIfInBounds_ne hne]
        exact h.mine j k (by simpa [hji] using hj) hk

/-- How many of the calls that write have come up. -/
def cntCh (ch : List Nat) (l : Nat → Bool) : Nat := ch.countP l
/-- Each of the calls that write waits for the one ahead of it. -/
def chainB' (ops : Array Oper) (ch : List Nat) : Bool :=
  (List.range ch.length).all fun k => k == 0 || (match ops[ch.getD k 0]? with | some o => o.after.any fun e => Region.binds .any e && e.on == ch.getD (k - 1) 0 | none => false)

/-- The operations that a listed one waits for are listed. -/
def Closed (ops : Array Oper) (l : Nat → Bool) : Prop := ∀ i o, ops[i]? = some o → l i = true → ∀ e ∈ o.after, Region.binds .any e = true → l e.on = true

theorem chain_step {ch : List Nat} (hc : chainB' ops ch = true) {k : Nat} (hk : k + 1 < ch.length) : ∃ o, ops[ch.getD (k + 1) 0]? = some o ∧ ∃ e ∈ o.after, Region.binds .any e = true ∧ e.on = ch.getD k 0 := by
  have h := List.all_eq_true.1 hc (k + 1) (List.mem_range.2 hk)
  simp only [Nat.add_sub_cancel, Bool.or_eq_true, beq_iff_eq] at h
  rcases h with h | h
  · omega
  · cases ho : ops[ch.getD (k + 1) 0]? with
    | none => rw [ho] at h; cases h
    | some o =>
      rw [ho] at h
      obtain ⟨e, he, hb⟩ := Array.any_eq_true'.1 h
      simp only [Bool.and_eq_true, beq_iff_eq] at hb
      exact ⟨o, rfl, e, he, hb.1, hb.2⟩
theorem chain_down {ch : List Nat} (hc : chainB' ops ch = true) {l : Nat → Bool} (hl : Closed ops l) {k : Nat} (hk : k < ch.length) (h : l (ch.getD k 0) = true) : ∀ j, j ≤ k → l (ch.getD j 0) = true := by
  induction k with
  | zero => intro j hj; rw [show j = 0 by omega]; exact h
  | succ k ih =>
    intro j hj
    obtain ⟨o, ho, e, he, hb, hon⟩ := chain_step hc hk
    have h1 := hl _ _ ho h e he hb
    rw [hon] at h1
    rcases Nat.lt_or_ge k j with h2 | h2
    · rw [show j = k + 1 by omega]; exact h
    · exact ih (by omega) h1 j h2
theorem cnt_split {ch : List Nat} {l : Nat → Bool} {k : Nat} (hk : k ≤ ch.length) (h1 : ∀ j, j < k → l (ch.getD j 0) = true) (h2 : ∀ j, k ≤ j → j < ch.length → l (ch.getD j 0) = false) : cntCh ch l = k := by
  induction ch generalizing k with
  | nil => have : k = 0 := by simpa using hk
           subst this; rfl
  | cons c ch ih =>
    unfold cntCh at *
    cases k with
    | zero =>
      rw [List.countP_eq_zero]
      intro x hx
      obtain ⟨j, hj, rfl⟩ := List.getElem_of_mem hx
      have := h2 j (by omega) hj
      rw [List.getD_eq_getElem?_getD, List.getElem?_eq_getElem hj] at this
      simpa using this
    | succ k =>
      have hc : l c = true := h1 0 (by omega)
      rw [List.countP_cons_of_pos hc]
      have := ih (k := k) (by simpa using hk) (fun j hj => by have := h1 (j + 1) (by omega); simpa using this) (fun j h3 h4 => by have := h2 (j + 1) (by omega) (by simp; omega); simpa using this)
      omega

/-- What a guard's slot says. -/
def yD (D : List (Option Nat)) (tmps : Array Value) (j : Nat) : Option Bool := match (D.getD j none).bind (tmps[·]?) with | some (.bool b) => some b | _ => none
theorem yD_eq {D : List (Option Nat)} (hD : ops.toList.map (·.dst) = D) (tmps : Array Value) : yielded ops tmps = yD D tmps := funext fun j => by
  have := dstOf_getD hD j
  unfold dstOf at this
  unfold yielded yD
  rw [this]
  cases (D.getD j none).bind (tmps[·]?) with
  | none => rfl
  | some v => cases v <;> rfl
/-- What one operation owes: it finds the state n (any, where it does not write), and leaves the state m. -/
def StepAt (P : Program) (D : List (Option Nat)) (N : Nat) (gl : List Nat) (Q : Exit → Act → World → Prop) (a0 : Act) (T : Nat → Value → World → Prop) (Rel : World → World → Prop) (St : Nat → World → Prop) (o : Oper) (i n m : Nat) : Prop :=
  ∀ (a : Act) (w : World) (K : Act → World → Prop), St n w → a.defers = a0.defers →
    (∀ k, (D.take N).contains (some k) = false → a.tmps[k]? = a0.tmps[k]?) →
    (∀ e ∈ o.after, Region.binds .any e = true → ∀ k, D.getD e.on none = some k → ∃ v, a.tmps[k]? = some v ∧ T e.on v w) →
    (∀ v w', Rel w w' → St m w' → T i v w' → (gl.contains i = true → ∀ j u, j ≠ i → gl.contains j = true → T j u w → u ≠ v) → K (a.put o.dst v) w') →
    if Region.wanted o (yD D a.tmps) = true then Oper.wp P o a w K Q else K (a.put o.dst undef) w

/-- Which operations one waits for, through others too, as a number's bits. -/
def maskL (ops : List Oper) : List Nat := ops.foldl (fun ms o => ms ++ [o.after.foldl (fun m e => if Region.binds .any e then m ||| (2 ^ e.on) ||| ms.getD e.on 0 else m) 0]) []
/-- Each operation from n on waits for all ahead of it. -/
def tailB (ops : List Oper) (n : Nat) : Bool :=
  let ms := maskL ops
  (List.range ops.length).all fun i => decide (i < n) || ms.getD i 0 == 2 ^ i - 1
theorem foldl_append_nth {α β : Type} (f : List β → α → β) (l : List α) : ∀ init : List β, ∃ r, l.foldl (fun ms o => ms ++ [f ms o]) init = init ++ r ∧ r.length = l.length ∧ ∀ i o, l[i]? = some o → r[i]? = some (f (init ++ r.take i) o) := by
  induction l with
  | nil => exact fun init => ⟨[], by simp, rfl, fun i o h => by cases h⟩
  | cons x l ih =>
    intro init
    obtain ⟨r, h1, h2, h3⟩ := ih (init ++ [f init x])
    refine ⟨f init x :: r, by rw [List.foldl_cons, h1]; simp, by simp [h2], fun i o ho => ?_⟩
    cases i with
    | zero => simp only [List.getElem?_cons_zero, Option.some.injEq] at ho; subst ho; simp
    | succ i =>
      have := h3 i o (by simpa using ho)
      simpa using this
theorem mask_fold (l : Nat → Bool) (ms : List Nat) (hms : ∀ j b, (ms.getD j 0).testBit b = true → l j = true → l b = true) : ∀ (es : List Edge) (m : Nat), (∀ b, m.testBit b = true → l b = true) → (∀ e ∈ es, Region.binds .any e = true → l e.on = true) →
    ∀ b, (es.foldl (fun m e => if Region.binds .any e then m ||| (2 ^ e.on) ||| ms.getD e.on 0 else m) m).testBit b = true → l b = true := by
  intro es
  induction es with
  | nil => exact fun m h _ b hb => h b hb
  | cons e es ih =>
    intro m hm hes b hb
    rw [List.foldl_cons] at hb
    refine ih _ (fun b' hb' => ?_) (fun e' he' => hes e' (by simp [he'])) b hb
    split at hb'
    · rename_i hbd
      have he := hes e (by simp) hbd
      rw [Nat.testBit_or, Nat.testBit_or, Bool.or_eq_true, Bool.or_eq_true] at hb'
      rcases hb' with (h | h) | h
      · exact hm b' h
      · rw [Nat.testBit_two_pow, decide_eq_true_eq] at h; rw [← h]; exact he
      · exact hms e.on b' h he
    · exact hm b' hb'
theorem mask_closed {l : Nat → Bool} (hc : Closed ops l) : ∀ i b, ((maskL ops.toList).getD i 0).testBit b = true → l i = true → l b = true := by
  obtain ⟨r, h1, h2, h3⟩ := foldl_append_nth (fun (ms : List Nat) (o : Oper) => o.after.foldl (fun m e => if Region.binds .any e then m ||| (2 ^ e.on) ||| ms.getD e.on 0 else m) 0) ops.toList []
  rw [List.nil_append] at h1
  have hr : maskL ops.toList = r := h1
  rw [hr]
  intro i
  induction i using Nat.strongRecOn with
  | ind i ih =>
    intro b hb hl
    by_cases hi : i < ops.size
    · have ho : ops.toList[i]? = some ops[i] := by simp [hi]
      have h4 := h3 i _ ho
      rw [List.nil_append] at h4
      rw [List.getD_eq_getElem?_getD, h4] at hb
      have hb' : (ops[i].after.foldl (fun m e => if Region.binds .any e then m ||| (2 ^ e.on) ||| (r.take i).getD e.on 0 else m) 0).testBit b = true := hb
      rw [← Array.foldl_toList] at hb'
      refine mask_fold l (r.take i) (fun j b' h5 h6 => ?_) _ 0 (fun b' h => by simp at h) (fun e he hbd => hc i _ (by simp [hi]) hl e (Array.mem_toList_iff.1 he) hbd) b hb'
      by_cases hj : j < i
      · refine ih j hj b' ?_ h6
        rw [List.getD_eq_getElem?_getD, List.getElem?_take, if_pos hj] at h5
        rw [List.getD_eq_getElem?_getD]; exact h5
      · rw [List.getD_eq_getElem?_getD, List.getElem?_take, if_neg hj] at h5
        simp at h5
    · rw [List.getD_eq_getElem?_getD, List.getElem?_eq_none (by rw [h2]; simpa using hi)] at hb
      simp at hb
theorem tail_all {n : Nat} (hB : tailB ops.toList n = true) {l : Nat → Bool} (hc : Closed ops l) {i : Nat} (hi : i < ops.size) (hn : n ≤ i) (hl : l i = true) : ∀ j, j < i → l j = true := by
  intro j hj
  have h := List.all_eq_true.1 hB i (List.mem_range.2 (by simpa using hi))
  simp only [Bool.or_eq_true, decide_eq_true_eq, beq_iff_eq] at h
  rcases h with h | h
  · omega
  · exact mask_closed hc i j (by rw [h, Nat.testBit_two_pow_sub_one, decide_eq_true hj]) hl

/-- The like of wp_region_inv, whether the region draws its order or not. -/
theorem wp_region_invB {id : Nat} {b : Bool} {a : Act} {w : World} (Inv : (Nat → Bool) → Act → World → Prop) (hm : P.follows .mixedOrders = true)
    (hac : ∀ i o, ops[i]? = some o → ∀ e ∈ o.after, Region.binds .any e = true → e.on < i)
    (h0 : ∀ w', w' = w ∨ w' = { w with drawn := w.drawn + 1 } → Inv (fun _ => false) a w')
    (hstep : ∀ i o, ops[i]? = some o → ∀ l a w, Inv l a w → l i = false → (∀ e ∈ o.after, Region.binds .any e = true → l e.on = true) → wpOp P ops Q i (fun a' w' => Inv (fun j => j == i || l j) a' w') a w)
    (hend : ∀ l a w, Inv l a w → (∀ i, i < ops.size → l i = true) → Q .normal a w) : (Code.region id ops b).wp P Q a w := by
  cases b with
  | true => exact wp_region_inv Inv hm hac (h0 _ (.inr rfl)) hstep hend
  | false =>
    refine wp_region ?_
    have key : ∀ n k a w, k + n = ops.size → Inv (fun j => decide (j < k)) a w → wpOps P ops Q (List.range' k n) a w := by
      intro n
      induction n with
      | zero =>
        intro k a w hk hI
        rw [List.range'_zero]
        exact hend _ a w hI fun i hi => decide_eq_true (by omega)
      | succ n ih =>
        intro k a w hk hI
        rw [List.range'_succ, wpOps_cons]
        have hi : k < ops.size := by omega
        refine wpOp_mono (fun a' w' h => ih (k + 1) a' w' (by omega) ?_) (hstep k ops[k] (by simp [hi]) _ a w hI (decide_eq_false (by omega)) fun e he hb => decide_eq_true (hac k ops[k] (by simp [hi]) e he hb))
        have e : (fun j => j == k || decide (j < k)) = fun j => decide (j < k + 1) := funext fun j => by
          rw [Bool.eq_iff_iff]; simp; omega
        rw [e] at h
        exact h
    rw [List.range_eq_range']
    refine key ops.size 0 a w (by omega) ?_
    have e : (fun j => decide (j < 0)) = fun _ : Nat => false := funext fun j => decide_eq_false (by omega)
    rw [e]
    exact h0 w (.inl rfl)

theorem wp_region_typed_tail {id : Nat} {b : Bool} {a0 : Act} {w0 : World} (n : Nat) (D : List (Option Nat)) (ch gl : List Nat) (T : Nat → Value → World → Prop) (Rel : World → World → Prop) (St : Nat → World → Prop)
    (hm : P.follows .mixedOrders = true) (hac : acB ops = true) (hD : ops.toList.map (·.dst) = D) (hB : dstB D a0.tmps.size = true) (hc : chainB' ops ch = true) (hcl : ch.all (fun i => decide (i < n)) = true)
    (htl : tailB ops.toList n = true) (hn : n ≤ ops.size)
    (hT : ∀ i v w w', T i v w → Rel w w' → T i v w') (h0 : ∀ w, w = w0 ∨ w = { w0 with drawn := w0.drawn + 1 } → St 0 w)
    (hstep : ∀ i o, i < n → ops[i]? = some o → (∀ k, k < ch.length → ch.getD k 0 = i → StepAt P D n gl Q a0 T Rel St o i k (k + 1)) ∧ (ch.contains i = false → ∀ m, StepAt P D n gl Q a0 T Rel St o i m m))
    (hend : ∀ vs a w, FrameOf ops a0 (fun i => decide (i < n)) vs a → (∀ i, i < n → T i (vs i) w) → (∀ i j, i ≠ j → i < n → j < n → gl.contains i = true → gl.contains j = true → vs i ≠ vs j) → St ch.length w → wpList P ops Q (ops.toList.drop n) a w) : (Code.region id ops b).wp P Q a0 w0 := by
  refine wp_region_invB (fun l a w => (∀ i, l i = true → i < ops.size) ∧ Closed ops l ∧
    (((∀ i, l i = true → i < n) ∧ St (cntCh ch l) w ∧ ∃ vs, FrameOf ops a0 l vs a ∧ (∀ i, l i = true → T i (vs i) w) ∧ ∀ i j, i ≠ j → l i = true → l j = true → gl.contains i = true → gl.contains j = true → vs i ≠ vs j) ∨ ∃ k, n < k ∧ (∀ i, l i = decide (i < k)) ∧ wpList P ops Q (ops.toList.drop k) a w)) hm (acB_spec hac) ?_ ?_ ?_
  · intro wz hwz
    refine ⟨fun i h => (by cases h), fun i o _ h => (by cases h), .inl ⟨fun i h => (by cases h), ?_, fun _ => undef, ⟨rfl, rfl, fun _ _ => rfl, fun i k h => (by cases h)⟩, fun i h => (by cases h), fun i j _ h => (by cases h)⟩⟩
    rw [show cntCh ch (fun _ => false) = 0 from List.countP_eq_zero.2 (fun _ _ h => (by cases h))]
    exact h0 _ hwz
  · rintro i o ho l a w ⟨hb, hcd, hI⟩ hli haf
    have hi : i < ops.size := (Array.getElem?_eq_some_iff.1 ho).1
    have hcd' : Closed ops (fun j => j == i || l j) := by
      intro j o' ho' hj e he hbd
      by_cases hji : j = i
      · subst hji
        rw [ho] at ho'
        cases ho'
        simp [haf e he hbd]
      · have := hcd j o' ho' (by simpa [hji] using hj) e he hbd
        simp [this]
    have hb' : ∀ j, (j == i || l j) = true → j < ops.size := fun j hj => by
      by_cases hji : j = i
      · rw [hji]; exact hi
      · exact hb j (by simpa [hji] using hj)
    -- an operation of the tail
    have tl : ∀ k, n ≤ k → (∀ j, l j = decide (j < k)) → k = i → wpList P ops Q (ops.toList.drop k) a w → wpOp P ops Q i (fun a' w' => (∀ j, (j == i || l j) = true → j < ops.size) ∧ Closed ops (fun j => j == i || l j) ∧
        (((∀ j, (j == i || l j) = true → j < n) ∧ St (cntCh ch (fun j => j == i || l j)) w' ∧ ∃ vs, FrameOf ops a0 (fun j => j == i || l j) vs a' ∧ (∀ j, (j == i || l j) = true → T j (vs j) w') ∧ ∀ i1 j1, i1 ≠ j1 → (i1 == i || l i1) = true → (j1 == i || l j1) = true → gl.contains i1 = true → gl.contains j1 = true → vs i1 ≠ vs j1) ∨ ∃ k, n < k ∧ (∀ j, (j == i || l j) = decide (j < k)) ∧ wpList P ops Q (ops.toList.drop k) a' w')) a w := by
      intro k hk hlk hki hw
      subst hki
      have e : ops.toList.drop k = o :: ops.toList.drop (k + 1) := by
        have hlt : k < ops.toList.length := by simpa using hi
        rw [List.drop_eq_getElem_cons hlt]
        congr 1
        have := (Array.getElem?_eq_some_iff.1 ho).2
        simpa using this
      rw [e] at hw
      have h1 : wpOp P ops Q k (wpList P ops Q (ops.toList.drop (k + 1))) a w := by unfold wpOp; simp only [ho]; exact hw
      refine wpOp_mono (fun a' w' h' => ⟨hb', hcd', .inr ⟨k + 1, by omega, fun j => ?_, h'⟩⟩) h1
      rw [hlk j, Bool.eq_iff_iff]
      simp
      omega
    rcases hI with ⟨hln, hS, vs, hF, hty, hdi⟩ | ⟨k, hk, hlk, hw⟩
    case inr =>
      refine tl k (by omega) hlk ?_ hw
      have h1 : ¬ i < k := fun h => by rw [hlk i, decide_eq_true h] at hli; cases hli
      rcases Nat.lt_or_ge k i with h2 | h2
      · have h3 := tail_all htl hcd' hi (by omega) (by simp) k h2
        rw [hlk k] at h3
        simp at h3
        omega
      · omega
    case inl =>
    by_cases hin0 : n ≤ i
    · -- all of the head has come up
      have hall : ∀ j, j < i → l j = true := fun j hj => by
        have h3 := tail_all htl hcd' hi hin0 (by simp) j hj
        have : (j == i) = false := beq_false_of_ne (by omega)
        simpa [this] using h3
      have hin : i = n := by
        rcases Nat.lt_or_ge n i with h | h
        · have := hln n (hall n h); omega
        · omega
      have hl : l = fun j => decide (j < n) := funext fun j => by
        by_cases h : j < n
        · rw [decide_eq_true h]; exact hall j (by omega)
        · rw [decide_eq_false h]
          cases e : l j with
          | false => rfl
          | true => exact absurd (hln j e) h
      refine tl n (Nat.le_refl _) (fun j => congrFun hl j) hin.symm (hend vs a w (hl ▸ hF) (fun j hj => hty j (by rw [hl]; exact decide_eq_true hj)) (fun i1 j1 hij h1 h2 => hdi i1 j1 hij (by rw [hl]; exact decide_eq_true h1) (by rw [hl]; exact decide_eq_true h2)) ?_)
      have : cntCh ch l = ch.length := List.countP_eq_length.2 fun x hx => by rw [hl]; exact List.all_eq_true.1 hcl x hx
      rw [this] at hS
      exact hS
    have hin : i < n := by omega
    have hdo : ∀ j, dstOf ops j = D.getD j none := dstOf_getD hD
    have hlen : D.length = ops.size := by rw [← hD]; simp
    have hamb : ∀ k, (D.take n).contains (some k) = false → a.tmps[k]? = a0.tmps[k]? := fun k hk => hF.other k fun j hj e => by
      have hj2 := hb j hj
      have hjn := hln j hj
      rw [hdo j] at e
      have : some k ∈ D.take n := by
        have hl3 : j < (D.take n).length := by simp; omega
        rw [List.getD_eq_getElem?_getD, List.getElem?_eq_getElem (by omega)] at e
        have e' : D[j] = some k := e
        have e2 : (D.take n)[j] = D[j] := by simp
        rw [← e', ← e2]
        exact List.getElem_mem _
      rw [List.contains_iff_mem.2 this] at hk
      cases hk
    have hdep : ∀ e ∈ o.after, Region.binds .any e = true → ∀ k, D.getD e.on none = some k → ∃ v, a.tmps[k]? = some v ∧ T e.on v w := fun e he hbd k hk =>
      ⟨_, hF.mine e.on k (haf e he hbd) (by rw [hdo]; exact hk), hty _ (haf e he hbd)⟩
    have fin : ∀ m, StepAt P D n gl Q a0 T Rel St o i (cntCh ch l) m → (m = cntCh ch (fun j => j == i || l j)) → wpOp P ops Q i (fun a' w' => (∀ j, (j == i || l j) = true → j < ops.size) ∧ Closed ops (fun j => j == i || l j) ∧
        (((∀ j, (j == i || l j) = true → j < n) ∧ St (cntCh ch (fun j => j == i || l j)) w' ∧ ∃ vs, FrameOf ops a0 (fun j => j == i || l j) vs a' ∧ (∀ j, (j == i || l j) = true → T j (vs j) w') ∧ ∀ i1 j1, i1 ≠ j1 → (i1 == i || l i1) = true → (j1 == i || l j1) = true → gl.contains i1 = true → gl.contains j1 = true → vs i1 ≠ vs j1) ∨ ∃ k, n < k ∧ (∀ j, (j == i || l j) = decide (j < k)) ∧ wpList P ops Q (ops.toList.drop k) a' w')) a w := by
      intro m hs hm
      refine wpOp_step ho fun K' hK' => ?_
      rw [yD_eq hD]
      refine hs a w K' hS hF.defers hamb hdep fun v w' hr hs' hv hdv => hK' _ _ ⟨hb', hcd', .inl ⟨fun j hj => ?_, by rw [← hm]; exact hs', _, hF.put hD hB ho hli v, fun j hj => ?_, fun i1 j1 hij hi1 hj1 hg1 hg2 => ?_⟩⟩
      · by_cases hji : j = i
        · rw [hji]; exact hin
        · exact hln j (by simpa [hji] using hj)
      · by_cases hji : j = i
        · rw [hji]
          show T i (if i = i then v else vs i) w'
          rw [if_pos rfl]; exact hv
        · show T j (if j = i then v else vs j) w'
          rw [if_neg hji]
          exact hT _ _ _ _ (hty j (by simpa [hji] using hj)) hr
      · show (if i1 = i then v else vs i1) ≠ (if j1 = i then v else vs j1)
        by_cases h1 : i1 = i
        · have h2 : j1 ≠ i := fun e => hij (h1.trans e.symm)
          rw [if_pos h1, if_neg h2]
          have h3 : l j1 = true := by simpa [h2] using hj1
          exact fun e => hdv (h1 ▸ hg1) j1 (vs j1) h2 hg2 (hty j1 h3) e.symm
        · rw [if_neg h1]
          have h3 : l i1 = true := by simpa [h1] using hi1
          by_cases h2 : j1 = i
          · rw [if_pos h2]
            exact hdv (h2 ▸ hg2) i1 (vs i1) h1 hg1 (hty i1 h3)
          · rw [if_neg h2]
            exact hdi i1 j1 hij h3 (by simpa [h2] using hj1) hg1 hg2
    by_cases hic : ch.contains i = true
    · obtain ⟨k, hk, hki⟩ : ∃ k, k < ch.length ∧ ch.getD k 0 = i := by
        have := List.contains_iff_mem.1 hic
        obtain ⟨k, hk, e⟩ := List.getElem_of_mem this
        exact ⟨k, hk, by rw [List.getD_eq_getElem?_getD, List.getElem?_eq_getElem hk]; exact e⟩
      have hup : ∀ j, k ≤ j → j < ch.length → l (ch.getD j 0) = false := fun j h1 h2 => by
        cases h : l (ch.getD j 0) with
        | false => rfl
        | true => have := chain_down hc hcd h2 h k h1; rw [hki, hli] at this; cases this
      have hdn : ∀ j, j < k → l (ch.getD j 0) = true := fun j h1 => by
        obtain ⟨k', rfl⟩ : ∃ k', k = k' + 1 := ⟨k - 1, by omega⟩
        obtain ⟨o', ho', e, he, hbd, hon⟩ := chain_step hc hk
        rw [hki, ho] at ho'
        cases ho'
        have h2 := haf e he hbd
        rw [hon] at h2
        exact chain_down hc hcd (by omega) h2 j (by omega)
      have hcn : cntCh ch l = k := cnt_split (by omega) hdn hup
      have hdist : ∀ j, k < j → j < ch.length → ch.getD j 0 ≠ i := fun j h1 h2 e => by
        -- an operation further along waits for this one, and is this one: then it waits for itself
        obtain ⟨j', rfl⟩ : ∃ j', j = j' + 1 := ⟨j - 1, by omega⟩
        have key : ∀ d, ∀ p, p + d + 1 < ch.length → ch.getD p 0 < ch.getD (p + d + 1) 0 := by
          intro d
          induction d with
          | zero =>
            intro p hp
            obtain ⟨o', ho', e, he, hbd, hon⟩ := chain_step hc hp
            have h5 := acB_spec hac _ _ ho' e he hbd
            rw [hon] at h5
            exact h5
          | succ d ih =>
            intro p hp
            have h3 := ih p (by omega)
            obtain ⟨o', ho', e, he, hbd, hon⟩ := chain_step hc (k := p + d + 1) (by omega)
            have h4 := acB_spec hac _ _ ho' e he hbd
            rw [hon] at h4
            exact Nat.lt_trans h3 h4
        have := key (j' - k) k (by omega)
        rw [show k + (j' - k) + 1 = j' + 1 by omega] at this
        omega
      refine fin (k + 1) (by rw [hcn]; exact (hstep i o hin ho).1 k hk hki) ?_
      refine (cnt_split (by omega) (fun j hj => ?_) (fun j h1 h2 => ?_)).symm
      · by_cases e : j = k
        · subst e; simp only [hki, beq_self_eq_true, Bool.true_or]
        · rw [hdn j (by omega), Bool.or_true]
      · rw [hup j (by omega) h2, Bool.or_false]
        exact beq_false_of_ne (hdist j (by omega) h2)
    · have hnc : ch.contains i = false := by simpa using hic
      refine fin (cntCh ch l) ((hstep i o hin ho).2 hnc _) ?_
      unfold cntCh
      apply List.countP_congr
      intro x hx
      have : x ≠ i := fun e => by
        rw [e] at hx
        rw [List.contains_iff_mem.2 hx] at hnc
        cases hnc
      simp [this]
  · rintro l a w ⟨hb, hcd, hI⟩ hall
    rcases hI with ⟨hln, hS, vs, hF, hty, hdi⟩ | ⟨k, hk, hlk, hw⟩
    · have hns : n = ops.size := by
        rcases Nat.lt_or_ge n ops.size with h | h
        · have := hln n (hall n h); omega
        · omega
      have hl : l = fun i => decide (i < n) := funext fun i => by
        by_cases h : i < n
        · rw [decide_eq_true h]; exact hall i (by omega)
        · cases e : l i with
          | true => exact absurd (hln i e) h
          | false => rw [decide_eq_false h]
      have hc1 : cntCh ch l = ch.length := List.countP_eq_length.2 fun x hx => by rw [hl]; exact List.all_eq_true.1 hcl x hx
      rw [hc1] at hS
      have h2 := hend vs a w (hl ▸ hF) (fun j hj => hty j (by rw [hl]; exact decide_eq_true hj)) (fun i1 j1 hij h1 h2 => hdi i1 j1 hij (by rw [hl]; exact decide_eq_true h1) (by rw [hl]; exact decide_eq_true h2)) hS
      rw [List.drop_eq_nil_of_le (by simp; omega)] at h2
      exact h2
    · have : ops.size ≤ k := by
        rcases Nat.lt_or_ge k ops.size with h | h
        · have h3 := hall k h
          rw [hlk k] at h3
          simp at h3
        · exact h
      rw [List.drop_eq_nil_of_le (by simpa using this)] at hw
      exact hw


/-! The steps of a list of operations, one after another. -/
/-- What the operation i owes. -/
def StepR (P : Program) (D : List (Option Nat)) (N : Nat) (ch gl : List Nat) (Q : Exit → Act → World → Prop) (a0 : Act) (T : Nat → Value → World → Prop) (Rel : World → World → Prop) (St : Nat → World → Prop) (i : Nat) (o : Oper) : Prop :=
  (∀ k, k < ch.length → ch.getD k 0 = i → StepAt P D N gl Q a0 T Rel St o i k (k + 1)) ∧ (ch.contains i = false → ∀ n, StepAt P D N gl Q a0 T Rel St o i n n)
theorem steps_done {N : Nat} {R : Nat → Oper → Prop} (k : Nat) (h : N ≤ k) {l : List Oper} : ∀ i o, l[i]? = some o → k + i < N → R (k + i) o := fun i o _ hi => absurd hi (by omega)
theorem steps_cons {N : Nat} {D : List (Option Nat)} {ch gl : List Nat} {a0 : Act} {T : Nat → Value → World → Prop} {Rel : World → World → Prop} {St : Nat → World → Prop} {k : Nat} {o : Oper} {l : List Oper} (h : StepR P D N ch gl Q a0 T Rel St k o)
    (h' : ∀ i o', l[i]? = some o' → k + 1 + i < N → StepR P D N ch gl Q a0 T Rel St (k + 1 + i) o') : ∀ i o', (o :: l)[i]? = some o' → k + i < N → StepR P D N ch gl Q a0 T Rel St (k + i) o' := fun i o' ho hi => by
  cases i with
  | zero => simp only [List.getElem?_cons_zero, Option.some.injEq] at ho; subst ho; exact h
  | succ i =>
    have e : k + (i + 1) = k + 1 + i := by omega
    rw [e] at hi ⊢
    exact h' i o' (by simpa using ho) hi
theorem steps_of {N : Nat} {D : List (Option Nat)} {ch gl : List Nat} {a0 : Act} {T : Nat → Value → World → Prop} {Rel : World → World → Prop} {St : Nat → World → Prop} {l : List Oper} (h : ∀ i o, l[i]? = some o → 0 + i < N → StepR P D N ch gl Q a0 T Rel St (0 + i) o) :
    ∀ i o, i < N → l.toArray[i]? = some o → StepR P D N ch gl Q a0 T Rel St i o := fun i o hi ho => by
  have := h i o (by simpa using ho) (by omega)
  rwa [Nat.zero_add] at this
/-- The whole region at once. -/
theorem wp_region_typed {id : Nat} {b : Bool} {a0 : Act} {w0 : World} (N : Nat) (D : List (Option Nat)) (ch gl : List Nat) (T : Nat → Value → World → Prop) (Rel : World → World → Prop) (St : Nat → World → Prop) (hN : ops.size = N)
    (hm : P.follows .mixedOrders = true) (hac : acB ops = true) (hD : ops.toList.map (·.dst) = D) (hB : dstB D a0.tmps.size = true) (hc : chainB' ops ch = true) (hcl : ch.all (fun i => decide (i < N)) = true)
    (hT : ∀ i v w w', T i v w → Rel w w' → T i v w') (h0 : ∀ w, w = w0 ∨ w = { w0 with drawn := w0.drawn + 1 } → St 0 w)
    (hstep : ∀ i o, i < N → ops[i]? = some o → StepR P D N ch gl Q a0 T Rel St i o)
    (hend : ∀ vs a w, FrameOf ops a0 (fun i => decide (i < N)) vs a → (∀ i, i < N → T i (vs i) w) → (∀ i j, i ≠ j → i < N → j < N → gl.contains i = true → gl.contains j = true → vs i ≠ vs j) → St ch.length w → Q .normal a w) : (Code.region id ops b).wp P Q a0 w0 :=
  wp_region_typed_tail N D ch gl T Rel St hm hac hD hB hc hcl (by
    unfold tailB
    refine List.all_eq_true.2 fun i hi => ?_
    have := List.mem_range.1 hi
    simp only [Array.length_toList] at this
    simp [show i < N by omega]) (by omega) hT h0 hstep (fun vs a w h1 h2 h4 h3 => by
    rw [List.drop_eq_nil_of_le (by simp; omega)]
    exact hend vs a w h1 h2 h4 h3)
/-- An operation that writes nothing. -/
theorem not_ch {N : Nat} {D : List (Option Nat)} {a0 : Act} {T : Nat → Value → World → Prop} {Rel : World → World → Prop} {St : Nat → World → Prop} {ch gl : List Nat} {o : Oper} {i : Nat} (hc : ch.contains i = false) (h : ∀ n, StepAt P D N gl Q a0 T Rel St o i n n) :
    StepR P D N ch gl Q a0 T Rel St i o :=
  ⟨fun k hk e => by
    have : i ∈ ch := by rw [← e, List.getD_eq_getElem?_getD, List.getElem?_eq_getElem hk]; exact List.getElem_mem _
    exact absurd hc (by rw [List.contains_iff_mem.2 this]; decide), fun _ => h⟩
/-- The k-th call that writes. -/
theorem is_ch {N : Nat} {D : List (Option Nat)} {a0 : Act} {T : Nat → Value → World → Prop} {Rel : World → World → Prop} {St : Nat → World → Prop} {ch gl : List Nat} {o : Oper} {i : Nat} (k : Nat) (hc : (List.range ch.length).all (fun j => decide (j = k) || ch.getD j 0 != i) = true) (hin : ch.contains i = true) (h : StepAt P D N gl Q a0 T Rel St o i k (k + 1)) :
    StepR P D N ch gl Q a0 T Rel St i o :=
  ⟨fun j hj e => by
    have := List.all_eq_true.1 hc j (List.mem_range.2 hj)
    rw [e] at this
    have e2 : j = k := by simpa using this
    rw [e2]; exact h, fun h' => absurd h' (by rw [hin]; decide)⟩
theorem go_plain {o : Oper} {a : Act} {w : World} {K : Act → World → Prop} {D : List (Option Nat)} (hg : o.guard = none) (h : Oper.wp P o a w K Q) : if Region.wanted o (yD D a.tmps) = true then Oper.wp P o a w K Q else K (a.put o.dst undef) w := by
  rw [if_pos (by unfold Region.wanted; rw [hg])]; exact h
theorem go_guard {o : Oper} {a : Act} {w : World} {K : Act → World → Prop} {D : List (Option Nat)} (j k : Nat) (b : Bool) (hg : o.guard = some (j, b)) (hj : D.getD j none = some k) (hk : a.tmps[k]? = some (.bool b)) (h : Oper.wp P o a w K Q) :
    if Region.wanted o (yD D a.tmps) = true then Oper.wp P o a w K Q else K (a.put o.dst undef) w := by
  have hy : yD D a.tmps j = some b := by
    unfold yD
    rw [hj]
    show (match a.tmps[k]? with | some (.bool b) => some b | _ => none) = some b
    rw [hk]
  rw [if_pos (by unfold Region.wanted; rw [hg]; simp [hy])]; exact h
theorem wp_gen {id : Nat} {b : Bool} {A : Act} {w : World} (h : ∀ a0 w0, a0 = A → w0 = w → (Code.region id ops b).wp P Q a0 w0) : (Code.region id ops b).wp P Q A w := h _ _ rfl rfl
/-- A slot that no operation of the head writes. -/
theorem FrameOf.amb {a0 a : Act} {n : Nat} {vs : Nat → Value} (h : FrameOf ops a0 (fun i => decide (i < n)) vs a) (D : List (Option Nat)) (hD : (ops.toList.map (·.dst)).take n = D) (k : Nat) (hk : D.contains (some k) = false) : a.tmps[k]? = a0.tmps[k]? := by
  refine h.other k fun i hi e => ?_
  have hi' : i < n := of_decide_eq_true hi
  rw [dstOf_getD rfl i, List.getD_eq_getElem?_getD] at e
  have hm : some k ∈ (ops.toList.map (·.dst)).take n := by
    cases e2 : (ops.toList.map (·.dst))[i]? with
    | none => rw [e2] at e; cases e
    | some x =>
      rw [e2] at e
      have e3 : x = some k := e
      have e4 : ((ops.toList.map (·.dst)).take n)[i]? = some x := by rw [List.getElem?_take, if_pos hi']; exact e2
      rw [← e3]
      exact List.mem_of_getElem? e4
  rw [hD] at hm
  rw [List.contains_iff_mem.2 hm] at hk
  cases hk
/-- The frame is told by what was put into it. -/
theorem FrameOf.unique {a0 a a' : Act} {l : Nat → Bool} {vs : Nat → Value} (h : FrameOf ops a0 l vs a) (h' : FrameOf ops a0 l vs a') : a = a' := by
  have ht : a.tmps = a'.tmps := by
    apply Array.ext_getElem?
    intro k
    by_cases hk : ∃ i, l i = true ∧ dstOf ops i = some k
    · obtain ⟨i, h1, h2⟩ := hk
      rw [h.mine i k h1 h2, h'.mine i k h1 h2]
    · rw [h.other k fun i h1 h2 => hk ⟨i, h1, h2⟩, h'.other k fun i h1 h2 => hk ⟨i, h1, h2⟩]
  have hd := h.defers.trans h'.defers.symm
  cases a; cases a'
  cases ht; cases hd; rfl
/-- What the first n operations put, one after another. -/
def putAll (D : List (Option Nat)) (vs : Nat → Value) : Nat → Act → Act
  | 0, a => a
  | n + 1, a => (putAll D vs n a).put (D.getD n none) (vs n)
theorem FrameOf.putAll {a0 : Act} {D : List (Option Nat)} (hD : ops.toList.map (·.dst) = D) (hB : dstB D a0.tmps.size = true) (vs : Nat → Value) : ∀ n, n ≤ ops.size → FrameOf ops a0 (fun i => decide (i < n)) vs (Go.Proofs.YtcgadmeagbcbnaaDoor.putAll D vs n a0) := by
  intro n
  induction n with
  | zero => exact fun _ => ⟨rfl, rfl, fun _ _ => rfl, fun i k h => absurd (of_decide_eq_true h) (by omega)⟩
  | succ n ih =>
    intro hn
    have hi : ops[n]? = some ops[n] := by simp [show n < ops.size by omega]
    have h1 := (ih (by omega)).put hD hB hi (decide_eq_false (by omega)) (vs n)
    have e1 : ops[n].dst = D.getD n none := by
      rw [← dstOf_getD hD n]; unfold dstOf; rw [hi]; rfl
    have e2 : (fun j => j == n || decide (j < n)) = fun j => decide (j < n + 1) := funext fun j => by
      rw [Bool.eq_iff_iff]; simp; omega
    have e3 : (fun j => if j = n then vs n else vs j) = vs := funext fun j => by
      by_cases h : j = n
      · rw [if_pos h, h]
      · rw [if_neg h]
    rw [e1, e2, e3] at h1
    exact h1
theorem FrameOf.lit {a0 a : Act} {n : Nat} {vs : Nat → Value} {D : List (Option Nat)} (h : FrameOf ops a0 (fun i => decide (i < n)) vs a) (hD : ops.toList.map (·.dst) = D) (hB : dstB D a0.tmps.size = true) (hn : n ≤ ops.size) (x : Act) (hx : Go.Proofs.YtcgadmeagbcbnaaDoor.putAll D vs n a0 = x) : a = x :=
  hx ▸ h.unique (FrameOf.putAll hD hB vs n hn)
/-- An operation whose guard says no. -/
theorem go_unguard {o : Oper} {a : Act} {w : World} {K : Act → World → Prop} {D : List (Option Nat)} (j k : Nat) (b b' : Bool) (hg : o.guard = some (j, b)) (hj : D.getD j none = some k) (hk : a.tmps[k]? = some (.bool b')) (hne : b' ≠ b) (h : K (a.put o.dst undef) w) :
    if Region.wanted o (yD D a.tmps) = true then Oper.wp P o a w K Q else K (a.put o.dst undef) w := by
  have hy : yD D a.tmps j = some b' := by
    unfold yD
    rw [hj]
    show (match a.tmps[k]? with | some (.bool b) => some b | _ => none) = some b'
    rw [hk]
  rw [if_neg (by unfold Region.wanted; rw [hg]; simp [hy, hne])]; exact h
/-- No distinct values asked. -/
theorem hK0 {gl : List Nat} {i : Nat} {T : Nat → Value → World → Prop} {Rel : World → World → Prop} {S : World → Prop} {w : World} {K : Value → World → Prop} (hg : gl.contains i = false)
    (h : ∀ v w', Rel w w' → S w' → T i v w' → (gl.contains i = true → ∀ j u, j ≠ i → gl.contains j = true → T j u w → u ≠ v) → K v w') : ∀ v w', Rel w w' → S w' → T i v w' → K v w' :=
  fun v w' h1 h2 h3 => h v w' h1 h2 h3 (fun h4 => absurd h4 (by rw [hg]; decide))
end

/-- What is said of slots, by a list. -/
def TyL (L : List (Value → World → Prop)) (i : Nat) (v : Value) (w : World) : Prop := L.getD i (fun _ _ => True) v w
theorem TyL_mono {L : List (Value → World → Prop)} {Rel : World → World → Prop} (h : ∀ p ∈ L, ∀ v w w', p v w → Rel w w' → p v w') : ∀ i v w w', TyL L i v w → Rel w w' → TyL L i v w' := by
  intro i v w w' h1 h2
  unfold TyL at *
  by_cases hi : i < L.length
  · rw [List.getD_eq_getElem?_getD, List.getElem?_eq_getElem hi] at h1 ⊢
    exact h _ (List.getElem_mem hi) v w w' h1 h2
  · rw [List.getD_eq_getElem?_getD, List.getElem?_eq_none (by omega)]; trivial
/-- The value is this one. -/
def is (x : Value) : Value → World → Prop := fun v _ => v = x
theorem is_mono {x : Value} {Rel : World → World → Prop} : ∀ v w w', is x v w → Rel w w' → is x v w' := fun _ _ _ h _ => h
/-- Nothing is said. -/
def anyV : Value → World → Prop := fun _ _ => True
end Go.Proofs.YtcgadmeagbcbnaaDoor
