/- A set's All. -/
import Derived.Test.YtikoabnonmkhkaaDoorBitsH
namespace Go.Proofs.YtikoabnonmkhkaaDoor
open Go.RowKit Go.Shelf
attribute [local go_sem] Oper.semAt_some

/-- Between two rounds of All. -/
structure AI (w : World) (S : List Nat) (k : Nat) (W : World) : Prop where
  bel : Below w.heap.size w W
  bx : ∃ v, Boxed W (w.heap.size + 1) 25 v ∧ IRow W (w.heap.size + 3) v (zl ((lst S).take k))
theorem AI.kept {w : World} {S : List Nat} {k n : Nat} {W W' : World} {row : Option Nat} (h : AI w S k W) (hn : w.heap.size ≤ n) (hg : W.grownBy W' row) (hr : ∀ r, row = some r → n ≤ r ∧ ∃ o : Obj, W.heap[r]? = some o ∧ o.isCells = false) : AI w S k W' := by
  obtain ⟨v, h1, h2⟩ := h.bx
  refine ⟨h.bel.grown hg h.bel.size (fun k e => Nat.le_trans hn (hr k e).1), v, ownFrom_boxed (n := n) (fun _ : Unit => _) () W W' row h1 hg hr, ?_⟩
  refine World.ownsRow.kept h2 hg ?_
  rcases h2.2 with ⟨rfl, _⟩ | ⟨g, cap, cur, rfl, hb, hh, _⟩
  · exact .inl rfl
  · refine .inr (fun e => ?_)
    obtain ⟨_, o, ho, hc⟩ := hr g (by rw [← e]; rfl)
    rw [hh] at ho; injection ho with ho; rw [← ho] at hc; cases hc
theorem own_mono {W : World} {b b' : Nat} {e : TypeId} {size n : Nat} {v : Value} {xs : List Value} (h : W.ownsRow b' e size v n xs) (hb : b ≤ b') : W.ownsRow b e size v n xs := by
  refine ⟨h.1, ?_⟩
  rcases h.2 with c | ⟨g, cap, cur, e, hg, r⟩
  · exact .inl c
  · exact .inr ⟨g, cap, cur, e, Nat.le_trans hb hg, r⟩
theorem AI.below {w : World} {S : List Nat} {k : Nat} {W W' : World} (h : AI w S k W) (hb : Below W.heap.size W W') : AI w S k W' := by
  obtain ⟨v, h1, h2⟩ := h.bx
  exact ⟨h.bel.trans (hb.mono h.bel.size), v, (hb.block _ h1.lt).trans h1, IRow.below h2 hb⟩
def FRB (a b c d : Nat) (w : World) (x : Nat) : Array Value := #[.agg #[.int .u64 a, .int .u64 b, .int .u64 c, .int .u64 d], .pointer (some ⟨w.heap.size, 0, none⟩), .slice none 0 0, .pointer (some ⟨w.heap.size + 1, 0, none⟩), .int .i64 x, .agg #[.int .u64 a, .int .u64 b, .int .u64 c, .int .u64 d],
  .func (.func 42) #[] #[.pointer (some ⟨w.heap.size + 1 + 1, 0, none⟩)], .int .i64 x, undef, undef, undef, undef, undef]
set_option maxRecDepth 100000 in
set_option maxHeartbeats 2000000 in
theorem ball_any {S : List Nat} (h : wfB S) (w : World) (hT : TabAt w) (h0 : 0 < w.heap.size) : Calls Tryd.prog 20 #[svL S] w fun e w' => ∃ v, e = .returned v ∧ Ints w' w'.heap.size v (zl (lst S)) ∧ Below w.heap.size w w' := by
  obtain ⟨i0, hi, hz0, hz1, hz2⟩ := info_parts infoI
  obtain ⟨a, b, c, d, rfl, h1, h2, h3, h4⟩ := wf_form h
  show Calls Tryd.prog 20 #[sv a b c d] w _
  unfold sv
  have hlen : ∀ k, (zl ((lst [a, b, c, d]).take k)).length ≤ 256 := fun k => by
    have := lst_len [a, b, c, d] 256
    rw [zl_len, List.length_take]
    show min k (lstTo [a, b, c, d] 256).length ≤ 256
    omega
  have HLN := Lib.hid hlen
  have hU := Tryd.underlying25
  have HT := Lib.hid (And.intro hT h0)
  clear h hT h0 hlen
  refine (callsIn_wide (n := 5)).1 ?_
  refine callsIn_of_wp_marks Tryd.func20 rfl trivial ?_ rfl
  simp only [Tryd.ntmps20, List.size_toArray, List.length_cons, List.length_nil, Nat.reduceAdd, Nat.reduceSub, Array.replicate_succ, Array.replicate_zero, List.push_toArray, List.append_toArray, List.nil_append, List.cons_append]
  gi_wp2_with (refine ⟨trivial, ?_⟩; gi_at_call 36; refine (callsIn_wide.2 (each_any _ _ _ _ _)).mono ?_; rintro e w' ⟨rfl, rfl⟩)
  have hb : Below w.heap.size w (((w.alloc (.cells #[.int .u64 (a : Int), .int .u64 (b : Int), .int .u64 (c : Int), .int .u64 (d : Int)] 24)).alloc (.cells #[.slice none 0 0] 25)).alloc (.cells #[.int .u64 (a : Int), .int .u64 (b : Int), .int .u64 (c : Int), .int .u64 (d : Int)] 24)) := fb_alloc (fb_alloc (fb_alloc (Below.refl _ _) _) _) _
  have b1 := Boxed.alloc (Boxed.new (w.alloc (.cells #[.int .u64 (a : Int), .int .u64 (b : Int), .int .u64 (c : Int), .int .u64 (d : Int)] 24)) 25 (.slice none 0 0)) (.cells #[.int .u64 (a : Int), .int .u64 (b : Int), .int .u64 (c : Int), .int .u64 (d : Int)] 24)
  have b2 := Arr.new ((w.alloc (.cells #[.int .u64 (a : Int), .int .u64 (b : Int), .int .u64 (c : Int), .int .u64 (d : Int)] 24)).alloc (.cells #[.slice none 0 0] 25)) 24 [.int .u64 (a : Int), .int .u64 (b : Int), .int .u64 (c : Int), .int .u64 (d : Int)]
  simp only [World.size_alloc] at b1 b2
  obtain ⟨W0, hW0⟩ : ∃ W0, (((w.alloc (.cells #[.int .u64 (a : Int), .int .u64 (b : Int), .int .u64 (c : Int), .int .u64 (d : Int)] 24)).alloc (.cells #[.slice none 0 0] 25)).alloc (.cells #[.int .u64 (a : Int), .int .u64 (b : Int), .int .u64 (c : Int), .int .u64 (d : Int)] 24)) = W0 := ⟨_, rfl⟩
  have hsz : W0.heap.size = w.heap.size + 1 + 1 + 1 := by rw [← hW0]; simp
  rw [hW0] at hb ⊢
  have b2' : Arr W0 (w.heap.size + 1 + 1) 24 [.int .u64 a, .int .u64 b, .int .u64 c, .int .u64 d] := by rw [← hW0]; exact b2
  rw [hW0] at b1
  have hEP : EP (w.heap.size + 1 + 1) a b c d W0 := ⟨b2', HT.out.1.below HT.out.2 hb, by omega⟩
  have hAI : AI w [a, b, c, d] 0 W0 := ⟨hb, _, b1, IRow.nil _ _⟩
  clear hW0 b1 b2 b2' hb
  have HSZ := Lib.hid hsz
  clear hsz
  refine wpIn_throughB (gf := 42) (lb := #[.pointer (some ⟨w.heap.size + 1 + 1, 0, none⟩)]) rfl (enters_of Tryd.func42 (by kernel_rfl) rfl) (w0 := W0) (Below.refl _ _)
    (each1 4 (by omega) (w.heap.size + 1 + 1) a b c d h1 h2 h3 h4 W0 hEP) (fun h k => kpOf_t h k) (fun W l o o' => kpOf_b (EP.onCells _ _ _ _ _) W l o o') (fun _ => rfl)
    (AI w [a, b, c, d]) (fun k A B row hs' hg hr => hs'.kept (n := W0.heap.size) (by rw [HSZ.out]; omega) hg hr) (fun k A B h hb => h.below hb) hAI
    (fun k x a' W => AI w [a, b, c, d] k W ∧ a' = { tmps := FRB a b c d w x, defers := [] }) ?hAx ?assign ?body ?done
  case hAx => exact fun k x a' _ A B row hs' hg hr => ⟨hs'.1.kept (n := W0.heap.size) (by rw [HSZ.out]; omega) hg hr, hs'.2⟩
  case assign =>
    intro l k x W K hx hI hK
    have HK := Lib.hid (hK { tmps := FRB a b c d w x, defers := [] } W (KeepsFrom.refl _ _) (fun h => h) ⟨hI, rfl⟩)
    clear hK hI
    gi_wp2
    exact HK.out
  case body =>
    rintro l k x a' W hx ⟨hI, rfl⟩
    obtain ⟨v, hbx, hrow⟩ := hI.bx
    obtain ⟨sx, scap, rfl⟩ := IRow.any hrow
    have hsl := HLN.out k
    have hsz := HSZ.out
    have HI := Lib.hid (And.intro hI (And.intro hbx hx))
    have d0 := hbx.cell
    have d1 := hbx.frozen
    unfold FRB
    clear hI hbx hx
    gi_wp2_with (gi_at_builtin; refine wpListIn_append_own _ rfl _ _ 25 rfl (w.heap.size + 3) 3 i0 (.int .i64 0) 1 8 hU hi hz0 hz1 hz2 rfl (by decide) _ _ _ rfl (hrow.alloc _) ⟨W.heap.size, 0, none⟩ 1 1 [.int .i64 x] rfl rfl (cell_one_new _ _ _) (by simp [Value.oneCell']) (by unfold maxLen; omega) (by omega) (by have := HI.out.2.1.lt; have := HI.out.1.bel.size; have := W.heap.size; simp; omega) ?_; intro v' w1 hown' hgrow hfr'; have hrow' := IRow.app hown'; obtain ⟨sx', sc', rfl⟩ := IRow.any hrow'; have hap := Boxed.appended HI.out.2.1 (by decide) (own_mono hrow (by omega : w.heap.size + 1 ≤ w.heap.size + 3)) (by have := HI.out.2.1.lt; omega) (Nat.le_refl _) (own_mono hown' (by omega : w.heap.size + 1 ≤ w.heap.size + 3)) hgrow; have e0 := hap.1.cell; have e1 := hap.1.frozen)
    have hl1 : (zl ((lst [a, b, c, d]).take k) ++ [(x : Int)]).length = (zl ((lst [a, b, c, d]).take k)).length + 1 := by simp
    have hzk : zl ((lst [a, b, c, d]).take (k + 1)) = zl ((lst [a, b, c, d]).take k) ++ [(x : Int)] := by
      rw [List.take_add_one, HI.out.2.2, zl_app]; rfl
    rw [hl1] at hap hrow' hown'
    refine ⟨hap.2.2.2.1.from _, fun hE => ⟨?_, ?_, Nat.lt_of_lt_of_le hE.pos hap.2.2.2.1.size⟩, HI.out.1.bel.trans (hap.2.2.2.2.mono (by omega)), _, hap.2.1, ?_⟩
    · exact ((hE.bx.alloc _).kept hgrow (fun e => by have := (World.ownsRow.lt hrow _ e.symm).1; omega)).set_other _ _ (by show w.heap.size + 1 + 1 ≠ w.heap.size + 1; omega)
    · exact fun j hj => (hap.2.2.2.2.cell (p := ⟨0, j, none⟩) (by show 0 < w.heap.size + 1; omega)).trans (hE.tab j hj)
    · rw [hzk]
      exact IRow.other hrow' _ _ (hap.1.not_row (by decide) hown').symm
  case done =>
    intro D W hD hI hK
    obtain ⟨v, hbx, hrow⟩ := hI.bx
    have d0 := hbx.cell
    have HX := Lib.hid (And.intro hI (And.intro hrow (And.intro hK hD)))
    clear hI hrow hK hD hbx
    gi_wp2
    have e1 : zl ((lst [a, b, c, d]).take (lst [a, b, c, d]).length) = zl (lst [a, b, c, d]) := by rw [List.take_length]
    have hKD : W.heap[D]? = some (.deferred (some [])) := HX.out.2.2.1
    have hD : w.heap.size ≤ D := by have := HX.out.2.2.2; have := HSZ.out; omega
    have hr2 := HX.out.2.1
    rw [e1] at hr2
    have hAI' := (HX.out.1).kept (n := w.heap.size) (Nat.le_refl _) (grownBy_putObj' W D (.deferred none)) (fun r e => by cases e; exact ⟨hD, _, hKD, rfl⟩)
    refine ⟨by simp, .inl ⟨_, _, rfl, run_takeDeferred hKD, ?_⟩⟩
    refine ⟨v, by simp [results, Tryd.f20, go_sem], v, rfl, ?_, hAI'.bel⟩
    refine IRow.ints (base := w.heap.size + 3) (IRow.kept hr2 (grownBy_putObj' _ D _) ?_) (Nat.le_refl _)
    rcases hr2.2 with ⟨rfl, _⟩ | ⟨g, cap, cur, rfl, hb, hh, _⟩
    · exact .inl rfl
    · refine .inr (fun e => ?_)
      obtain rfl : g = D := by simpa [Value.ownBlock] using e
      rw [hh] at hKD; cases hKD
end Go.Proofs.YtikoabnonmkhkaaDoor
