/- Sets of places: what All answers. No condition. Sets of places: what Len answers. No condition. -/
import Derived.Test.YtcgadmeagbcbnaaDoorIdxBa
import Derived.Test.YtcgadmeagbcbnaaDoorTrailSince
import Derived.Test.YtcgadmeagbcbnaaDoorThroughB
import Derived.Laws.Bits128
namespace Go.Proofs.YtcgadmeagbcbnaaDoor
section
open Go.RowKit Go.Shelf
attribute [local go_sem] Oper.semAt_some

theorem quiet_add_same {P : Program} {f : FuncId} {args : Array Value} {w : World} {a n : Nat} {v : Value}
    (h : Calls P f args (w.drewN (a + n)) fun e w' => e = .returned v ∧ w' = w.drewN (a + n)) :
    Calls P f args (w.drewN (a + n)) fun e w'' => e = .returned v ∧ ∃ m, w'' = w.drewN (a + m) :=
  h.mono fun _ _ ⟨he, hm⟩ => ⟨he, n, hm⟩
/-- Places as numbers. -/
def zl (L : List Nat) : List Int := L.map (fun n : Nat => (n : Int))
theorem zl_len (L : List Nat) : (zl L).length = L.length := by simp [zl]
theorem zl_app (L M : List Nat) : zl (L ++ M) = zl L ++ zl M := by simp [zl]
theorem zl_get (L : List Nat) (k : Nat) : (zl L).getD k 0 = ((L.getD k 0 : Nat) : Int) := by
  simp only [zl, List.getD_eq_getElem?_getD, List.getElem?_map]
  cases L[k]? <;> simp
theorem infoI : (Tryd.prog.info? 3).map (fun i => (i.zero, i.size, i.bytes)) = some (some (.int .i64 0), 1, 8) := by kernel_rfl
/-- A list that came in, where it has a place: its form. -/
theorem ints_cell {w : World} {n : Nat} {v : Value} {L : List Nat} (h : Ints w n v (zl L)) {k : Nat} (hk : k < L.length) : ∃ b o c, v = .slice (some ⟨b, o, none⟩) L.length c ∧ b < n ∧ ∀ j, j < L.length → w.cell? ⟨b, o + j, none⟩ = some (.int .i64 ((L.getD j 0 : Nat) : Int)) := by
  rcases h with ⟨h, _⟩ | ⟨b, o, c, e, hl, h1, h2⟩
  · have := congrArg List.length h; rw [zl_len] at this; simp at this; subst this; simp at hk
  · rw [zl_len] at e h2
    exact ⟨b, o, c, e, h1, fun j hj => by rw [h2 j hj, zl_get]⟩
theorem ints_form {w : World} {n : Nat} {v : Value} {L : List Nat} (h : Ints w n v (zl L)) : ∃ a c, v = .slice a L.length c := by
  rcases h with ⟨h, a, c, e, _⟩ | ⟨b, o, c, e, _⟩
  · have := congrArg List.length h; rw [zl_len] at this; simp at this; subst this; exact ⟨a, c, e⟩
  · rw [zl_len] at e; exact ⟨_, c, e⟩
theorem each_any (a b c d : Nat) (w : World) : Calls Tryd.prog 45 #[sv a b c d] w fun e w' =>
    e = .returned (.func (.func 56) #[] #[.pointer (some ⟨w.heap.size, 0, none⟩)]) ∧ w.alloc (.cells #[.int .u64 a, .int .u64 b, .int .u64 c, .int .u64 d] 48) = w' := by
  unfold sv
  go_enter Tryd.func45, Tryd.ntmps45
  go_wp2
  go_ret
  exact ⟨rfl, rfl⟩
/-- What it reads. -/
structure EP (Bs a b c d : Nat) (W : World) : Prop where
  bx : Arr W Bs 48 [.int .u64 a, .int .u64 b, .int .u64 c, .int .u64 d]
  tab : TabAt W
  pos : 0 < W.heap.size
theorem size_putObj (W : World) (l : Nat) (o : Obj) : (W.putObj l o).heap.size = W.heap.size := by simp [World.putObj]
theorem EP.onCells (Bs a b c d : Nat) : OnCells (EP Bs a b c d) := fun W l _ o' hl ho h =>
  ⟨Arr.putObj hl ho h.bx, fun j hj => cell_putObj hl ho (h.tab j hj), by rw [size_putObj]; exact h.pos⟩
theorem EP.below {Bs a b c d : Nat} {W W' : World} (h : EP Bs a b c d W) (hb : Below W.heap.size W W') : EP Bs a b c d W' :=
  ⟨h.bx.below hb h.bx.lt, h.tab.below h.pos hb, Nat.lt_of_lt_of_le h.pos hb.size⟩
theorem take_len {L M : List Nat} (A : List Nat) (x : Nat) (h : ∃ R, L = A ++ [x] ++ R) (hk : M = A) : L[M.length]? = some x ∧ L.take (M.length + 1) = A ++ [x] := by
  obtain ⟨R, rfl⟩ := h
  subst hk
  constructor
  · simp
  · rw [List.take_append_of_le_length (by simp), List.take_of_length_le (by simp)]
theorem lstTo_pre (S : List Nat) (n m : Nat) (h : n ≤ m) : ∃ R, lstTo S m = lstTo S n ++ R := by
  induction m with
  | zero => exact ⟨[], by rw [show n = 0 by omega]; simp⟩
  | succ m ih =>
    rcases Nat.lt_or_ge m n with h1 | h1
    · exact ⟨[], by rw [show n = m + 1 by omega]; simp⟩
    · obtain ⟨R, hR⟩ := ih h1
      rw [lstTo_succ]
      split
      · exact ⟨R ++ [m], by rw [hR, List.append_assoc]⟩
      · exact ⟨R, hR⟩
def leftB (i : Int) : Nat := if i < 0 then 0 else (257 - i).toNat
set_option maxRecDepth 100000 in
set_option maxHeartbeats 2000000 in
theorem each1 (n : Nat) (hn : 1 ≤ n) (Bs a b c d : Nat) (h1 : a < 2 ^ 64) (h2 : b < 2 ^ 64) (h3 : c < 2 ^ 64) (h4 : d < 2 ^ 64) (w : World) (hP : EP Bs a b c d w) :
    HandsOverB n Tryd.prog 56 #[.pointer (some ⟨Bs, 0, none⟩)] (fun x : Nat => #[Value.int .i64 (x : Int)]) (KpOf (EP Bs a b c d)) (lst [a, b, c, d]) w := by
  intro l J W hW hY hJb h0
  have hPW := hP.below hW
  clear hP hW
  have hwf := wf_mk h1 h2 h3 h4
  have HN : Hid (∀ (i : Int) (W' : World), i ≤ 9223372036854775807 → EP Bs a b c d W' → Calls Tryd.prog 57 #[.agg #[.int .u64 a, .int .u64 b, .int .u64 c, .int .u64 d], .int .i64 i] W' (NextPost [a, b, c, d] i.toNat W')) :=
    fun i W' hi hE => bnext_any hwf i hi W' hE.tab hE.pos
  clear hwf h1 h2 h3 h4
  have c0 : W.cell? ⟨Bs, 0, none⟩ = some (.int .u64 a) := hPW.bx.cell 0
  have c1 : W.cell? ⟨Bs, 1, none⟩ = some (.int .u64 b) := hPW.bx.cell 1
  have c2 : W.cell? ⟨Bs, 2, none⟩ = some (.int .u64 c) := hPW.bx.cell 2
  have c3 : W.cell? ⟨Bs, 3, none⟩ = some (.int .u64 d) := hPW.bx.cell 3
  refine callsIn_of_wp Tryd.func56 rfl trivial ?_ rfl
  simp only [Tryd.ntmps56, List.size_toArray, List.length_cons, List.length_nil, Nat.reduceAdd, Nat.reduceSub, Array.replicate_succ, Array.replicate_zero, List.push_toArray, List.append_toArray, List.nil_append, List.cons_append]
  have HY := Lib.hid hY
  have HP := Lib.hid (And.intro hPW h0)
  have HJb := Lib.hid hJb
  clear hJb
  clear hY hPW h0
  gi_wp2_with (refine ⟨trivial, ?_⟩; gi_at_call 57; refine (callsIn_wide.2 (HN.out 0 _ (by omega) HP.out.1)).mono ?_; rintro e w' ⟨v, rfl, hv, hb⟩; have HV := Lib.hid (And.intro hv hb); clear hv hb)
  gi_loopw [3] (fun s wr => ∃ (k i : Nat) (v : Int), s = .int .i64 v ∧ i ≤ 256 ∧ NextR [a, b, c, d] i v ∧ (lst [a, b, c, d]).take k = lstTo [a, b, c, d] i ∧ k = (lstTo [a, b, c, d] i).length ∧ J k wr ∧ EP Bs a b c d wr) (fun s _ => leftB (intOf s))
  case atStart => exact ⟨0, 0, _, rfl, by omega, HV.out.1, by simp [lstTo], by simp [lstTo], HJb.out _ _ _ HP.out.2 HV.out.2, HP.out.1.below HV.out.2⟩
  case round =>
    obtain ⟨k, i, z, rfl, hi, hN, hT, hk, hJ, hPs⟩ := hrel
    rcases next_lst hN hi with ⟨rfl, hl⟩ | ⟨j, rfl, hij, hj, hlt, hhas⟩
    · have HJ := Lib.hid hJ
      clear hJ hT hN c0 c1 c2 c3
      gi_wp2
      go_end0
      refine ⟨⟨_, rfl⟩, ?_⟩
      rw [hl, ← hk]
      exact HJ.out
    · have d0 : wr.cell? ⟨Bs, 0, none⟩ = some (.int .u64 a) := hPs.bx.cell 0
      have d1 : wr.cell? ⟨Bs, 1, none⟩ = some (.int .u64 b) := hPs.bx.cell 1
      have d2 : wr.cell? ⟨Bs, 2, none⟩ = some (.int .u64 c) := hPs.bx.cell 2
      have d3 : wr.cell? ⟨Bs, 3, none⟩ = some (.int .u64 d) := hPs.bx.cell 3
      obtain ⟨hx, htk⟩ := take_len (L := lst [a, b, c, d]) (M := lstTo [a, b, c, d] i) (lstTo [a, b, c, d] i) j (by rw [← hlt]; obtain ⟨R, hR⟩ := lstTo_pre [a, b, c, d] (j + 1) 256 (by omega); exact ⟨R, hR⟩) rfl
      rw [← hk] at hx htk
      obtain ⟨fn, tmps, assign, body, hy, hR⟩ := HY.out k j wr hx hJ
      try dsimp only at hy
      have HF := Lib.hid (And.intro hk (And.intro hlt htk))
      have q0 : (0 : Int) ≤ j := by omega
      have HS := Lib.hid hPs
      clear hx htk hk hlt hT hN hJ hPs c0 c1 c2 c3 d0 d1 d2 d3 hhas
      gi_wp2
      refine hR.mono ?_
      rintro e W3 ⟨rfl, hJ3, hk3⟩
      have HE3 := Lib.hid (And.intro hJ3 (hk3 HS.out))
      have d0 : W3.cell? ⟨Bs, 0, none⟩ = some (.int .u64 a) := HE3.out.2.bx.cell 0
      have d1 : W3.cell? ⟨Bs, 1, none⟩ = some (.int .u64 b) := HE3.out.2.bx.cell 1
      have d2 : W3.cell? ⟨Bs, 2, none⟩ = some (.int .u64 c) := HE3.out.2.bx.cell 2
      have d3 : W3.cell? ⟨Bs, 3, none⟩ = some (.int .u64 d) := HE3.out.2.bx.cell 3
      clear hJ3 hk3
      gi_wp2_with (refine ⟨trivial, ?_⟩; gi_at_call 57; refine (callsIn_wide.2 (HN.out ((j : Int) + 1) _ (by omega) HE3.out.2)).mono ?_; rintro e w' ⟨v', rfl, hv, hb⟩; have HV' := Lib.hid (And.intro hv hb); clear hv hb)
      go_roundw
      case rel =>
        obtain ⟨hk, hlt, htk⟩ := HF.out
        have hv := HV'.out.1
        rw [show ((j : Int) + 1).toNat = j + 1 by omega] at hv
        exact ⟨k + 1, j + 1, v', rfl, by omega, hv, htk.trans hlt.symm, by rw [hlt, List.length_append, ← hk]; rfl, HJb.out _ _ _ HE3.out.1 HV'.out.2, HE3.out.2.below HV'.out.2⟩
      case measure =>
        have hv := HV'.out.1
        rw [show ((j : Int) + 1).toNat = j + 1 by omega] at hv
        have hge : v' = -1 ∨ (j : Int) + 1 ≤ v' := by
          rcases hv with ⟨e, _⟩ | ⟨m, e, h1, _⟩
          · exact .inl e
          · exact .inr (by omega)
        show leftB v' < leftB (j : Int)
        unfold leftB
        rw [if_neg (show ¬ (j : Int) < 0 by omega)]
        split <;> omega
/-- Between two rounds of All. -/
structure AI (w : World) (S : List Nat) (k : Nat) (W : World) : Prop where
  bel : Below w.heap.size w W
  bx : ∃ v, Boxed W (w.heap.size + 1) 34 v ∧ IRow W (w.heap.size + 3) v (zl ((lst S).take k))
theorem AI.kept {w : World} {S : List Nat} {k n : Nat} {W W' : World} {row : Option Nat} (h : AI w S k W) (hn : w.heap.size ≤ n) (hg : W.grownBy W' row) (hr : ∀ r, row = some r → n ≤ r ∧ ∃ o : Obj, W.heap[r]? = some o ∧ o.isCells = false) : AI w S k W' := by
  obtain ⟨v, h1, h2⟩ := h.bx
  refine ⟨h.bel.grown hg h.bel.size (fun k e => Nat.le_trans hn (hr k e).1), v, ownFrom_boxed (n := n) (fun _ : Unit => _) () W W' row h1 hg hr, ?_⟩
  refine World.ownsRow.kept h2 hg ?_
  rcases h2.2 with ⟨rfl, _⟩ | ⟨g, cap, cur, rfl, hb, hh, _⟩
  · exact .inl rfl
  · refine .inr (fun e => ?_)
    obtain ⟨_, o, ho, hc⟩ := hr g (by rw [← e]; rfl)
    rw [hh] at ho; injection ho with ho; rw [← ho] at hc; cases hc
theorem own_mono {W : World} {b b' : Nat} {e : TypeId} {size n : Nat} {v : Value} {xs : List Value} (h : W.ownsRow b' e size v n xs) (hb : b ≤ b') : W.ownsRow b e size v n xs := by
  refine ⟨h.1, ?_⟩
  rcases h.2 with c | ⟨g, cap, cur, e, hg, r⟩
  · exact .inl c
  · exact .inr ⟨g, cap, cur, e, Nat.le_trans hb hg, r⟩
theorem AI.below {w : World} {S : List Nat} {k : Nat} {W W' : World} (h : AI w S k W) (hb : Below W.heap.size W W') : AI w S k W' := by
  obtain ⟨v, h1, h2⟩ := h.bx
  exact ⟨h.bel.trans (hb.mono h.bel.size), v, (hb.block _ h1.lt).trans h1, IRow.below h2 hb⟩
def FRB (a b c d : Nat) (w : World) (x : Nat) : Array Value := #[.agg #[.int .u64 a, .int .u64 b, .int .u64 c, .int .u64 d], .pointer (some ⟨w.heap.size, 0, none⟩), .slice none 0 0, .pointer (some ⟨w.heap.size + 1, 0, none⟩), .int .i64 x, .agg #[.int .u64 a, .int .u64 b, .int .u64 c, .int .u64 d],
  .func (.func 56) #[] #[.pointer (some ⟨w.heap.size + 1 + 1, 0, none⟩)], .int .i64 x, undef, undef, undef, undef, undef]
set_option maxRecDepth 100000 in
set_option maxHeartbeats 2000000 in
theorem ball_any {S : List Nat} (h : wfB S) (w : World) (hT : TabAt w) (h0 : 0 < w.heap.size) : Calls Tryd.prog 24 #[svL S] w fun e w' => ∃ v, e = .returned v ∧ Ints w' w'.heap.size v (zl (lst S)) ∧ Below w.heap.size w w' := by
  obtain ⟨i0, hi, hz0, hz1, hz2⟩ := info_parts infoI
  obtain ⟨a, b, c, d, rfl, h1, h2, h3, h4⟩ := wf_form h
  show Calls Tryd.prog 24 #[sv a b c d] w _
  unfold sv
  have hlen : ∀ k, (zl ((lst [a, b, c, d]).take k)).length ≤ 256 := fun k => by
    have := lst_len [a, b, c, d] 256
    rw [zl_len, List.length_take]
    show min k (lstTo [a, b, c, d] 256).length ≤ 256
    omega
  have HLN := Lib.hid hlen
  have hU := Tryd.underlying34
  have HT := Lib.hid (And.intro hT h0)
  clear h hT h0 hlen
  refine (callsIn_wide (n := 5)).1 ?_
  refine callsIn_of_wp_marks Tryd.func24 rfl trivial ?_ rfl
  simp only [Tryd.ntmps24, List.size_toArray, List.length_cons, List.length_nil, Nat.reduceAdd, Nat.reduceSub, Array.replicate_succ, Array.replicate_zero, List.push_toArray, List.append_toArray, List.nil_append, List.cons_append]
  gi_wp2_with (refine ⟨trivial, ?_⟩; gi_at_call 45; refine (callsIn_wide.2 (each_any _ _ _ _ _)).mono ?_; rintro e w' ⟨rfl, rfl⟩)
  have hb : Below w.heap.size w (((w.alloc (.cells #[.int .u64 (a : Int), .int .u64 (b : Int), .int .u64 (c : Int), .int .u64 (d : Int)] 48)).alloc (.cells #[.slice none 0 0] 34)).alloc (.cells #[.int .u64 (a : Int), .int .u64 (b : Int), .int .u64 (c : Int), .int .u64 (d : Int)] 48)) := fb_alloc (fb_alloc (fb_alloc (Below.refl _ _) _) _) _
  have b1 := Boxed.alloc (Boxed.new (w.alloc (.cells #[.int .u64 (a : Int), .int .u64 (b : Int), .int .u64 (c : Int), .int .u64 (d : Int)] 48)) 34 (.slice none 0 0)) (.cells #[.int .u64 (a : Int), .int .u64 (b : Int), .int .u64 (c : Int), .int .u64 (d : Int)] 48)
  have b2 := Arr.new ((w.alloc (.cells #[.int .u64 (a : Int), .int .u64 (b : Int), .int .u64 (c : Int), .int .u64 (d : Int)] 48)).alloc (.cells #[.slice none 0 0] 34)) 48 [.int .u64 (a : Int), .int .u64 (b : Int), .int .u64 (c : Int), .int .u64 (d : Int)]
  simp only [World.size_alloc] at b1 b2
  obtain ⟨W0, hW0⟩ : ∃ W0, (((w.alloc (.cells #[.int .u64 (a : Int), .int .u64 (b : Int), .int .u64 (c : Int), .int .u64 (d : Int)] 48)).alloc (.cells #[.slice none 0 0] 34)).alloc (.cells #[.int .u64 (a : Int), .int .u64 (b : Int), .int .u64 (c : Int), .int .u64 (d : Int)] 48)) = W0 := ⟨_, rfl⟩
  have hsz : W0.heap.size = w.heap.size + 1 + 1 + 1 := by rw [← hW0]; simp
  rw [hW0] at hb ⊢
  have b2' : Arr W0 (w.heap.size + 1 + 1) 48 [.int .u64 a, .int .u64 b, .int .u64 c, .int .u64 d] := by rw [← hW0]; exact b2
  rw [hW0] at b1
  have hEP : EP (w.heap.size + 1 + 1) a b c d W0 := ⟨b2', HT.out.1.below HT.out.2 hb, by omega⟩
  have hAI : AI w [a, b, c, d] 0 W0 := ⟨hb, _, b1, IRow.nil _ _⟩
  clear hW0 b1 b2 b2' hb
  have HSZ := Lib.hid hsz
  clear hsz
  refine wpIn_throughB (gf := 56) (lb := #[.pointer (some ⟨w.heap.size + 1 + 1, 0, none⟩)]) rfl (enters_of Tryd.func56 (by kernel_rfl) rfl) (w0 := W0) (Below.refl _ _)
    (each1 4 (by omega) (w.heap.size + 1 + 1) a b c d h1 h2 h3 h4 W0 hEP) (fun h k => kpOf_t h k) (fun W l o o' => kpOf_b (EP.onCells _ _ _ _ _) W l o o') (fun _ => rfl)
    (AI w [a, b, c, d]) (fun k A B row hs' hg hr => hs'.kept (n := W0.heap.size) (by rw [HSZ.out]; omega) hg hr) (fun k A B h hb => h.below hb) hAI
    (fun k x a' W => AI w [a, b, c, d] k W ∧ a' = { tmps := FRB a b c d w x, defers := [] }) ?hAx ?assign ?body ?done
  case hAx => exact fun k x a' _ A B row hs' hg hr => ⟨hs'.1.kept (n := W0.heap.size) (by rw [HSZ.out]; omega) hg hr, hs'.2⟩
  case assign =>
    intro l k x W K hx hI hK
    have HK := Lib.hid (hK { tmps := FRB a b c d w x, defers := [] } W (KeepsFrom.refl _ _) (fun h => h) ⟨hI, rfl⟩)
    clear hK hI
    gi_wp2
    exact HK.out
  case body =>
    rintro l k x a' W hx ⟨hI, rfl⟩
    obtain ⟨v, hbx, hrow⟩ := hI.bx
    obtain ⟨sx, scap, rfl⟩ := IRow.any hrow
    have hsl := HLN.out k
    have hsz := HSZ.out
    have HI := Lib.hid (And.intro hI (And.intro hbx hx))
    have d0 := hbx.cell
    have d1 := hbx.frozen
    unfold FRB
    clear hI hbx hx
    gi_wp2_with (gi_at_builtin; refine wpListIn_append_own _ rfl _ _ 34 rfl (w.heap.size + 3) 3 i0 (.int .i64 0) 1 8 hU hi hz0 hz1 hz2 rfl (by decide) _ _ _ rfl (hrow.alloc _) ⟨W.heap.size, 0, none⟩ 1 1 [.int .i64 x] rfl rfl (cell_one_new _ _ _) (by simp [Value.oneCell']) (by unfold maxLen; omega) (by omega) (by have := HI.out.2.1.lt; have := HI.out.1.bel.size; have := W.heap.size; simp; omega) ?_; intro v' w1 hown' hgrow hfr'; have hrow' := IRow.app hown'; obtain ⟨sx', sc', rfl⟩ := IRow.any hrow'; have hap := Boxed.appended HI.out.2.1 (by decide) (own_mono hrow (by omega : w.heap.size + 1 ≤ w.heap.size + 3)) (by have := HI.out.2.1.lt; omega) (Nat.le_refl _) (own_mono hown' (by omega : w.heap.size + 1 ≤ w.heap.size + 3)) hgrow; have e0 := hap.1.cell; have e1 := hap.1.frozen)
    have hl1 : (zl ((lst [a, b, c, d]).take k) ++ [(x : Int)]).length = (zl ((lst [a, b, c, d]).take k)).length + 1 := by simp
    have hzk : zl ((lst [a, b, c, d]).take (k + 1)) = zl ((lst [a, b, c, d]).take k) ++ [(x : Int)] := by
      rw [List.take_add_one, HI.out.2.2, zl_app]; rfl
    rw [hl1] at hap hrow' hown'
    refine ⟨hap.2.2.2.1.from _, fun hE => ⟨?_, ?_, Nat.lt_of_lt_of_le hE.pos hap.2.2.2.1.size⟩, HI.out.1.bel.trans (hap.2.2.2.2.mono (by omega)), _, hap.2.1, ?_⟩
    · exact ((hE.bx.alloc _).kept hgrow (fun e => by have := (World.ownsRow.lt hrow _ e.symm).1; omega)).set_other _ _ (by show w.heap.size + 1 + 1 ≠ w.heap.size + 1; omega)
    · exact fun j hj => (hap.2.2.2.2.cell (p := ⟨0, j, none⟩) (by show 0 < w.heap.size + 1; omega)).trans (hE.tab j hj)
    · rw [hzk]
      exact IRow.other hrow' _ _ (hap.1.not_row (by decide) hown').symm
  case done =>
    intro D W hD hI hK
    obtain ⟨v, hbx, hrow⟩ := hI.bx
    have d0 := hbx.cell
    have HX := Lib.hid (And.intro hI (And.intro hrow (And.intro hK hD)))
    clear hI hrow hK hD hbx
    gi_wp2
    have e1 : zl ((lst [a, b, c, d]).take (lst [a, b, c, d]).length) = zl (lst [a, b, c, d]) := by rw [List.take_length]
    have hKD : W.heap[D]? = some (.deferred (some [])) := HX.out.2.2.1
    have hD : w.heap.size ≤ D := by have := HX.out.2.2.2; have := HSZ.out; omega
    have hr2 := HX.out.2.1
    rw [e1] at hr2
    have hAI' := (HX.out.1).kept (n := w.heap.size) (Nat.le_refl _) (grownBy_putObj' W D (.deferred none)) (fun r e => by cases e; exact ⟨hD, _, hKD, rfl⟩)
    refine ⟨by simp, .inl ⟨_, _, rfl, run_takeDeferred hKD, ?_⟩⟩
    refine ⟨v, by simp [results, Tryd.f24, go_sem], v, rfl, ?_, hAI'.bel⟩
    refine IRow.ints (base := w.heap.size + 3) (IRow.kept hr2 (grownBy_putObj' _ D _) ?_) (Nat.le_refl _)
    rcases hr2.2 with ⟨rfl, _⟩ | ⟨g, cap, cur, rfl, hb, hh, _⟩
    · exact .inl rfl
    · refine .inr (fun e => ?_)
      obtain rfl : g = D := by simpa [Value.ownBlock] using e
      rw [hh] at hKD; cases hKD
end
section
open Go.RowKit
def bsum (x : Nat) : Nat → Nat
  | 0 => 0
  | n + 1 => bsum x n + (x.testBit n).toNat
theorem bsum_succ (x n : Nat) : bsum x (n + 1) = bsum x n + (x.testBit n).toNat := rfl
theorem bsum_congr {x y : Nat} (n : Nat) (h : ∀ i, i < n → x.testBit i = y.testBit i) : bsum x n = bsum y n := by
  induction n with
  | zero => rfl
  | succ n ih => rw [bsum_succ x n, bsum_succ y n, ih (fun i hi => h i (by omega)), h n (by omega)]
theorem bit_low (b y i : Nat) (hb : b < 256) (hi : i < 8) : (b + 256 * y).testBit i = b.testBit i := by
  have h := Nat.testBit_mod_two_pow (b + 256 * y) 8 i
  rw [show (b + 256 * y) % 2 ^ 8 = b by omega, decide_eq_true hi, Bool.true_and] at h
  exact h.symm
theorem bit_high (b y i : Nat) (hb : b < 256) : (b + 256 * y).testBit (8 + i) = y.testBit i := by
  have h := Nat.testBit_div_two_pow (b + 256 * y) i (n := 8)
  rw [show (b + 256 * y) / 2 ^ 8 = y by omega, Nat.add_comm i 8] at h
  exact h.symm
theorem bsum_low (b y : Nat) (hb : b < 256) : ∀ m, m ≤ 8 → bsum (b + 256 * y) m = bsum b m := fun m hm => bsum_congr m (fun i hi => bit_low b y i hb (by omega))
theorem bsum_byte_at (b y m : Nat) (hb : b < 256) (hm : m = 8) (n : Nat) : bsum (b + 256 * y) (m + n) = bsum b m + bsum y n := by
  induction n with
  | zero =>
    have h0 : bsum y 0 = 0 := rfl
    rw [Nat.add_zero, h0, Nat.add_zero]; exact bsum_low b y hb m (by omega)
  | succ n ih =>
    have hh : (b + 256 * y).testBit (m + n) = y.testBit n := by rw [hm]; exact bit_high b y n hb
    rw [← Nat.add_assoc, bsum_succ (b + 256 * y) (m + n), ih, hh, bsum_succ y n, Nat.add_assoc]
theorem bsum_byte (b y n : Nat) (hb : b < 256) : bsum (b + 256 * y) (8 + n) = bsum b 8 + bsum y n := bsum_byte_at b y 8 hb rfl n
theorem and_byte (a y m M : Nat) (ha : a < 256) (hm : m < 256) : (a + 256 * y) &&& (m + 256 * M) = (a &&& m) + 256 * (y &&& M) := by
  have h1 := Nat.and_mod_two_pow (a := a + 256 * y) (b := m + 256 * M) (n := 8)
  have h2 := Nat.and_div_two_pow (a := a + 256 * y) (b := m + 256 * M) (n := 8)
  rw [show (a + 256 * y) % 2 ^ 8 = a by omega, show (m + 256 * M) % 2 ^ 8 = m by omega] at h1
  rw [show (a + 256 * y) / 2 ^ 8 = y by omega, show (m + 256 * M) / 2 ^ 8 = M by omega] at h2
  omega
theorem and_cut (c m k : Nat) (hm : m < 2 ^ k) : c &&& m = (c % 2 ^ k) &&& m := by
  have h1 := Nat.and_mod_two_pow (a := c) (b := m) (n := k)
  rw [Nat.mod_eq_of_lt hm, Nat.mod_eq_of_lt (Nat.lt_of_le_of_lt Nat.and_le_right hm)] at h1
  exact h1
def rep (m : Nat) : Nat → Nat
  | 0 => 0
  | n + 1 => m + 256 * rep m n
theorem rep_succ (m n : Nat) : rep m (n + 1) = m + 256 * rep m n := rfl
def stg1 (n x : Nat) : Nat := ((x / 2) &&& rep 85 n) + (x &&& rep 85 n)
def stg2 (n x : Nat) : Nat := ((x / 4) &&& rep 51 n) + (x &&& rep 51 n)
def stg3 (n x : Nat) : Nat := (x / 16 + x) &&& rep 15 n
def pb1 (b : Nat) : Nat := ((b / 2) &&& 85) + (b &&& 85)
def pb2 (b : Nat) : Nat := ((b / 4) &&& 51) + (b &&& 51)
def pb3 (b : Nat) : Nat := (b / 16 + b) &&& 15
theorem stg1_byte (n b y : Nat) (hb : b < 256) : stg1 (n + 1) (b + 256 * y) = pb1 b + 256 * stg1 n y := by
  unfold stg1 pb1
  rw [rep_succ, show (b + 256 * y) / 2 = (b / 2 + 128 * (y % 2)) + 256 * (y / 2) by omega, and_byte _ _ 85 _ (by omega) (by omega), and_byte b y 85 _ hb (by omega),
    and_cut (b / 2 + 128 * (y % 2)) 85 7 (by omega), show (b / 2 + 128 * (y % 2)) % 2 ^ 7 = b / 2 by omega]
  omega
theorem stg2_byte (n b y : Nat) (hb : b < 256) : stg2 (n + 1) (b + 256 * y) = pb2 b + 256 * stg2 n y := by
  unfold stg2 pb2
  rw [rep_succ, show (b + 256 * y) / 4 = (b / 4 + 64 * (y % 4)) + 256 * (y / 4) by omega, and_byte _ _ 51 _ (by omega) (by omega), and_byte b y 51 _ hb (by omega),
    and_cut (b / 4 + 64 * (y % 4)) 51 6 (by omega), show (b / 4 + 64 * (y % 4)) % 2 ^ 6 = b / 4 by omega]
  omega
theorem stg3_byte (n b y : Nat) (hb : b % 16 ≤ 4) (hb2 : b / 16 ≤ 4) (hy : y % 16 ≤ 4) : stg3 (n + 1) (b + 256 * y) = pb3 b + 256 * stg3 n y := by
  unfold stg3 pb3
  rw [rep_succ, show (b + 256 * y) / 16 + (b + 256 * y) = (b / 16 + b + 16 * (y % 16)) + 256 * (y / 16 + y) by omega, and_byte _ _ 15 _ (by omega) (by omega),
    and_cut (b / 16 + b + 16 * (y % 16)) 15 4 (by omega), and_cut (b / 16 + b) 15 4 (by omega), show (b / 16 + b + 16 * (y % 16)) % 2 ^ 4 = (b / 16 + b) % 2 ^ 4 by omega]
theorem byte_table : (List.range 256).all (fun b => decide (pb1 b < 256) && decide (pb2 (pb1 b) % 16 ≤ 4) && decide (pb2 (pb1 b) / 16 ≤ 4) && decide (pb2 (pb1 b) < 256) && decide (pb3 (pb2 (pb1 b)) = bsum b 8) && decide (bsum b 8 ≤ 8)) = true := by kernel_rfl
theorem byte_facts (b : Nat) (hb : b < 256) : pb1 b < 256 ∧ pb2 (pb1 b) % 16 ≤ 4 ∧ pb2 (pb1 b) / 16 ≤ 4 ∧ pb2 (pb1 b) < 256 ∧ pb3 (pb2 (pb1 b)) = bsum b 8 ∧ bsum b 8 ≤ 8 := by
  have h := List.all_eq_true.1 byte_table b (List.mem_range.2 hb)
  simp only [Bool.and_eq_true, decide_eq_true_eq] at h
  obtain ⟨⟨⟨⟨⟨h1, h2⟩, h3⟩, h4⟩, h5⟩, h6⟩ := h
  exact ⟨h1, h2, h3, h4, h5, h6⟩
def stg (n x : Nat) : Nat := stg3 n (stg2 n (stg1 n x))
theorem stg12_low (n y : Nat) : stg2 n (stg1 n y) % 16 ≤ 4 := by
  cases n with
  | zero => simp [stg2, rep]
  | succ n =>
    have hy : y = y % 256 + 256 * (y / 256) := by omega
    obtain ⟨f1, f2, _, f4, _⟩ := byte_facts (y % 256) (by omega)
    rw [hy, stg1_byte _ _ _ (by omega), stg2_byte _ _ _ f1]
    omega
theorem stg_byte (n x : Nat) : stg (n + 1) x = bsum (x % 256) 8 + 256 * stg n (x / 256) := by
  obtain ⟨f1, f2, f3, f4, f5, _⟩ := byte_facts (x % 256) (by omega)
  have hx : x = x % 256 + 256 * (x / 256) := by omega
  unfold stg
  conv => lhs; rw [hx]
  rw [stg1_byte _ _ _ (by omega), stg2_byte _ _ _ f1, stg3_byte _ _ _ f2 f3 (stg12_low _ _), f5]
theorem bsum_step (x n : Nat) : bsum x (8 + n) = bsum (x % 256) 8 + bsum (x / 256) n := by
  have hx : x = x % 256 + 256 * (x / 256) := by omega
  conv => lhs; rw [hx]
  exact bsum_byte _ _ _ (by omega)
/-- The last three sums and the cut. -/
def foldW (v : Nat) : Nat :=
  let a := v + v / 256
  let b := a + a / 65536
  (b + b / 4294967296) % 128
theorem div_form (K l X : Nat) (hK : 0 < K) (h : l < K) : (l + K * X) / K = X := by
  rw [Nat.add_mul_div_left _ _ hK, Nat.div_eq_of_lt h, Nat.zero_add]
theorem foldW_eq (v Q R R3 R4 R5 R6 p0 p1 p2 p3 p4 p5 p6 p7 : Nat) (h0 : p0 ≤ 8) (h1 : p1 ≤ 8) (h2 : p2 ≤ 8) (h3 : p3 ≤ 8) (h4 : p4 ≤ 8) (h5 : p5 ≤ 8) (h6 : p6 ≤ 8) (h7 : p7 ≤ 8)
    (e0 : v = p0 + 256 * Q) (e1 : Q = p1 + 256 * R) (e2 : R = p2 + 256 * R3) (e3 : R3 = p3 + 256 * R4) (e4 : R4 = p4 + 256 * R5) (e5 : R5 = p5 + 256 * R6) (e6 : R6 = p6 + 256 * p7) :
    foldW v = p0 + p1 + p2 + p3 + p4 + p5 + p6 + p7 := by
  have a1 : v + Q = (p0 + p1 + 256 * (p1 + p2)) + 65536 * (R + R3) := by omega
  have l1 : p0 + p1 + 256 * (p1 + p2) < 65536 := by clear e0 e1 e2 e3 e4 e5 e6 a1; omega
  have a2 : v + Q + (R + R3) = (p0 + p1 + p2 + p3 + 256 * (p1 + p2 + p3 + p4) + 65536 * (p2 + p3 + p4 + p5) + 16777216 * (p3 + p4 + p5 + p6)) + 4294967296 * (R4 + R5 + R6 + p7) := by clear a1 l1; omega
  have l2 : p0 + p1 + p2 + p3 + 256 * (p1 + p2 + p3 + p4) + 65536 * (p2 + p3 + p4 + p5) + 16777216 * (p3 + p4 + p5 + p6) < 4294967296 := by clear e0 e1 e2 e3 e4 e5 e6 a1 a2 l1; omega
  have a3 : v + Q + (R + R3) + (R4 + R5 + R6 + p7) = (p0 + p1 + p2 + p3 + p4 + p5 + p6 + p7) + 128 * (2 * (Q + R + R3 + R4 + R5 + R6 + p7)) := by clear a1 a2 l1 l2; omega
  have l3 : p0 + p1 + p2 + p3 + p4 + p5 + p6 + p7 < 128 := by clear e0 e1 e2 e3 e4 e5 e6 a1 a2 a3 l1 l2; omega
  have l0 : p0 < 256 := by clear e0 e1 e2 e3 e4 e5 e6 a1 a2 a3 l1 l2; omega
  have d1 : v / 256 = Q := by rw [e0]; exact div_form 256 p0 Q (by decide) l0
  have d2 : (v + Q) / 65536 = R + R3 := by rw [a1]; exact div_form 65536 _ _ (by decide) l1
  have d3 : (v + Q + (R + R3)) / 4294967296 = R4 + R5 + R6 + p7 := by rw [a2]; exact div_form 4294967296 _ _ (by decide) l2
  unfold foldW
  simp only [d1, d2, d3]
  rw [a3, Nat.add_mul_mod_self_left, Nat.mod_eq_of_lt l3]
theorem bsum_zero (z : Nat) : bsum z 0 = 0 := rfl
theorem stg_zero (z : Nat) : stg 0 z = 0 := by simp [stg, stg3, rep]
theorem bsum_at (x n m : Nat) (h : m = 8 + n) : bsum x m = bsum (x % 256) 8 + bsum (x / 256) n := by rw [h]; exact bsum_step x n
theorem stg_at (x n m : Nat) (h : m = n + 1) : stg m x = bsum (x % 256) 8 + 256 * stg n (x / 256) := by rw [h]; exact stg_byte n x
theorem low_le (z : Nat) : bsum (z % 256) 8 ≤ 8 := (byte_facts (z % 256) (by omega)).2.2.2.2.2
attribute [local irreducible] bsum stg foldW
theorem stg_eight (x : Nat) : foldW (stg 8 x) = bsum x 64 := by
  obtain ⟨x1, h1⟩ : ∃ x1, x / 256 = x1 := ⟨_, rfl⟩
  obtain ⟨x2, h2⟩ : ∃ x2, x1 / 256 = x2 := ⟨_, rfl⟩
  obtain ⟨x3, h3⟩ : ∃ x3, x2 / 256 = x3 := ⟨_, rfl⟩
  obtain ⟨x4, h4⟩ : ∃ x4, x3 / 256 = x4 := ⟨_, rfl⟩
  obtain ⟨x5, h5⟩ : ∃ x5, x4 / 256 = x5 := ⟨_, rfl⟩
  obtain ⟨x6, h6⟩ : ∃ x6, x5 / 256 = x6 := ⟨_, rfl⟩
  obtain ⟨x7, h7⟩ : ∃ x7, x6 / 256 = x7 := ⟨_, rfl⟩
  have g0 := stg_at x 7 8 rfl
  have g1 := stg_at x1 6 7 rfl
  have g2 := stg_at x2 5 6 rfl
  have g3 := stg_at x3 4 5 rfl
  have g4 := stg_at x4 3 4 rfl
  have g5 := stg_at x5 2 3 rfl
  have g6 := stg_at x6 1 2 rfl
  have g7 := stg_at x7 0 1 rfl
  rw [stg_zero, Nat.mul_zero, Nat.add_zero] at g7
  rw [h1] at g0
  rw [h2] at g1
  rw [h3] at g2
  rw [h4] at g3
  rw [h5] at g4
  rw [h6] at g5
  rw [h7, g7] at g6
  have e0 := bsum_at x 56 64 rfl
  have e1 := bsum_at x1 48 56 rfl
  have e2 := bsum_at x2 40 48 rfl
  have e3 := bsum_at x3 32 40 rfl
  have e4 := bsum_at x4 24 32 rfl
  have e5 := bsum_at x5 16 24 rfl
  have e6 := bsum_at x6 8 16 rfl
  have e7 := bsum_at x7 0 8 rfl
  rw [bsum_zero, Nat.add_zero] at e7
  rw [h1] at e0
  rw [h2] at e1
  rw [h3] at e2
  rw [h4] at e3
  rw [h5] at e4
  rw [h6] at e5
  rw [h7, e7] at e6
  rw [foldW_eq _ _ _ _ _ _ _ _ _ _ _ _ _ _ _ (low_le x) (low_le x1) (low_le x2) (low_le x3) (low_le x4) (low_le x5) (low_le x6) (low_le x7) g0 g1 g2 g3 g4 g5 g6,
    e0, e1, e2, e3, e4, e5, e6]
  simp only [Nat.add_assoc]
theorem masks : rep 85 8 = 6148914691236517205 ∧ rep 51 8 = 3689348814741910323 ∧ rep 15 8 = 1085102592571150095 := by decide
theorem lst_count (S : List Nat) (q : Nat) : ∀ n, n ≤ 64 → (lstTo S (64 * q + n)).length = (lstTo S (64 * q)).length + bsum (S.getD q 0) n := by
  intro n
  induction n with
  | zero => intro _; rw [bsum_zero]; rfl
  | succ n ih =>
    intro hn
    have hh : hasS S (64 * q + n) = (S.getD q 0).testBit n := by
      unfold hasS
      rw [show (64 * q + n) / 64 = q by omega, show (64 * q + n) % 64 = n by omega]
    rw [← Nat.add_assoc, lstTo_succ, hh, bsum_succ (S.getD q 0) n]
    cases (S.getD q 0).testBit n <;> simp [ih (by omega), Nat.add_assoc]
theorem lst_length (a b c d : Nat) : (lst [a, b, c, d]).length = bsum a 64 + bsum b 64 + bsum c 64 + bsum d 64 := by
  have h0 := lst_count [a, b, c, d] 0 64 (by omega)
  have h1 := lst_count [a, b, c, d] 1 64 (by omega)
  have h2 := lst_count [a, b, c, d] 2 64 (by omega)
  have h3 := lst_count [a, b, c, d] 3 64 (by omega)
  have hz : (lstTo [a, b, c, d] (64 * 0)).length = 0 := by simp [lstTo]
  simp only [List.getD_cons_zero, List.getD_cons_succ, Nat.reduceMul, Nat.reduceAdd] at h0 h1 h2 h3 hz
  unfold lst
  rw [h3, h2, h1, h0, hz, Nat.zero_add]
theorem bsum_le (x n : Nat) : bsum x n ≤ n := by
  induction n with
  | zero => rw [bsum_zero]; exact Nat.le_refl _
  | succ n ih => rw [bsum_succ x n]; cases x.testBit n <;> simp <;> omega
theorem andU (a m : Nat) (ha : a < 2 ^ 64) (hm : m < 2 ^ 64) (z : Int) (hz : ((m : Nat) : Int) = z) : bits BinOp.and IntKind.u64 (a : Int) z = ((a &&& m : Nat) : Int) := by
  rw [← hz]; exact u64_and_nat a m (by omega) (by omega)
theorem wrapU (a : Nat) (z : Int) (hz : ((a : Nat) : Int) = z) (ha : a < 2 ^ 64) : IntKind.u64.wrap z = (a : Int) := by
  have hw : ∀ n, IntKind.u64.wrap n = n % 18446744073709551616 := fun n => by simp [IntKind.wrap, IntKind.bits, IntKind.signed]
  rw [hw, ← hz]; omega
theorem wrapI (a : Nat) (ha : a < 9223372036854775808) : IntKind.i64.wrap (a : Int) = (a : Int) := by
  simp only [IntKind.wrap, IntKind.bits, IntKind.signed]
  simp
  omega
theorem stage1 (x s : Nat) (hx : x < 2 ^ 64) (hs : stg1 8 x = s) : IntKind.u64.wrap (bits BinOp.and IntKind.u64 ((x : Int) / 2) 6148914691236517205 + bits BinOp.and IntKind.u64 (x : Int) 6148914691236517205) = (s : Int) ∧ s < 2 ^ 64 := by
  have l1 : (x / 2) &&& 6148914691236517205 ≤ 6148914691236517205 := Nat.and_le_right
  have l2 : x &&& 6148914691236517205 ≤ 6148914691236517205 := Nat.and_le_right
  unfold stg1 at hs
  rw [masks.1] at hs
  rw [show (x : Int) / 2 = ((x / 2 : Nat) : Int) by omega, andU (x / 2) 6148914691236517205 (by omega) (by decide) 6148914691236517205 rfl, andU x 6148914691236517205 (by omega) (by decide) 6148914691236517205 rfl]
  exact ⟨wrapU s _ (by rw [← hs]; rfl) (by omega), by omega⟩
theorem stage2 (x s : Nat) (hx : x < 2 ^ 64) (hs : stg2 8 x = s) : IntKind.u64.wrap (bits BinOp.and IntKind.u64 ((x : Int) / 4) 3689348814741910323 + bits BinOp.and IntKind.u64 (x : Int) 3689348814741910323) = (s : Int) ∧ s ≤ 7378697629483820646 := by
  have l1 : (x / 4) &&& 3689348814741910323 ≤ 3689348814741910323 := Nat.and_le_right
  have l2 : x &&& 3689348814741910323 ≤ 3689348814741910323 := Nat.and_le_right
  unfold stg2 at hs
  rw [masks.2.1] at hs
  rw [show (x : Int) / 4 = ((x / 4 : Nat) : Int) by omega, andU (x / 4) 3689348814741910323 (by omega) (by decide) 3689348814741910323 rfl, andU x 3689348814741910323 (by omega) (by decide) 3689348814741910323 rfl]
  exact ⟨wrapU s _ (by rw [← hs]; rfl) (by omega), by omega⟩
theorem stage3 (x s : Nat) (hx : x ≤ 7378697629483820646) (hs : stg3 8 x = s) : bits BinOp.and IntKind.u64 (IntKind.u64.wrap ((x : Int) / 16 + (x : Int))) 1085102592571150095 = (s : Int) ∧ s ≤ 1085102592571150095 := by
  have l1 : (x / 16 + x) &&& 1085102592571150095 ≤ 1085102592571150095 := Nat.and_le_right
  unfold stg3 at hs
  rw [masks.2.2] at hs
  rw [wrapU (x / 16 + x) _ (by omega) (by omega), andU (x / 16 + x) 1085102592571150095 (by omega) (by decide) 1085102592571150095 rfl, hs]
  exact ⟨rfl, by omega⟩
theorem addShift (x K s : Nat) (z : Int) (hz : ((K : Nat) : Int) = z) (h : x + x / K = s) (hs : s < 2 ^ 64) : IntKind.u64.wrap ((x : Int) + (x : Int) / z) = (s : Int) := by
  refine wrapU s _ ?_ hs
  rw [← hz, ← h, Int.natCast_add, Int.natCast_ediv]
theorem ones_any (x : Nat) (hx : x < 2 ^ 64) (w : World) : Calls Tryd.prog 49 #[.int .u64 x] w fun e w' => e = .returned (.int .i64 (bsum x 64 : Nat)) ∧ w = w' := by
  obtain ⟨s1, h1⟩ : ∃ s, stg1 8 x = s := ⟨_, rfl⟩
  obtain ⟨s2, h2⟩ : ∃ s, stg2 8 s1 = s := ⟨_, rfl⟩
  obtain ⟨s3, h3⟩ : ∃ s, stg3 8 s2 = s := ⟨_, rfl⟩
  obtain ⟨k1, b1⟩ := stage1 x s1 hx h1
  obtain ⟨k2, b2⟩ := stage2 s1 s2 b1 h2
  obtain ⟨k3, b3⟩ := stage3 s2 s3 b2 h3
  obtain ⟨v1, e1⟩ : ∃ v, s3 + s3 / 256 = v := ⟨_, rfl⟩
  obtain ⟨v2, e2⟩ : ∃ v, v1 + v1 / 65536 = v := ⟨_, rfl⟩
  obtain ⟨v3, e3⟩ : ∃ v, v2 + v2 / 4294967296 = v := ⟨_, rfl⟩
  have c1 : v1 ≤ 2170205185142300190 := by omega
  have c2 : v2 ≤ 4340410370284600380 := by omega
  have c3 : v3 ≤ 8680820740569200760 := by omega
  have f1 := addShift s3 256 v1 256 rfl e1 (by omega)
  have f2 := addShift v1 65536 v2 65536 rfl e2 (by omega)
  have f3 := addShift v2 4294967296 v3 4294967296 rfl e3 (by omega)
  have f4 := wrapI v3 (by omega)
  have hfin : v3 % 128 = bsum x 64 := by
    rw [← stg_eight x, ← e3, ← e2, ← e1, ← h3, ← h2, ← h1]
    unfold stg foldW
    rfl
  have HF := Lib.hid hfin
  clear hfin e1 e2 e3 c1 c2 c3 b1 b2 b3 h1 h2 h3
  go_enter Tryd.func49, Tryd.ntmps49
  go_wp2
  go_ret
  refine ⟨?_, rfl⟩
  show Ending.returned (.int .i64 (bits BinOp.and IntKind.i64 (v3 : Int) 127)) = _
  rw [i64_and127, ← HF.out, Int.natCast_emod]
  rfl
set_option maxRecDepth 100000 in
set_option maxHeartbeats 1000000 in
theorem blen_any {S : List Nat} (h : wfB S) (w : World) : Calls Tryd.prog 33 #[svL S] w fun e w' => e = .returned (.int .i64 ((lst S).length : Nat)) ∧ Below w.heap.size w w' := by
  obtain ⟨a, b, c, d, rfl, h1, h2, h3, h4⟩ := wf_form h
  show Calls Tryd.prog 33 #[sv a b c d] w _
  unfold sv
  have hl := lst_length a b c d
  have l1 := bsum_le a 64
  have l2 := bsum_le b 64
  have l3 := bsum_le c 64
  have l4 := bsum_le d 64
  have O := Lib.hid (ones_any a h1)
  have O2 := Lib.hid (ones_any b h2)
  have O3 := Lib.hid (ones_any c h3)
  have O4 := Lib.hid (ones_any d h4)
  obtain ⟨p, hp⟩ : ∃ p, bsum a 64 = p := ⟨_, rfl⟩
  obtain ⟨q, hq⟩ : ∃ p, bsum b 64 = p := ⟨_, rfl⟩
  obtain ⟨r, hr⟩ : ∃ p, bsum c 64 = p := ⟨_, rfl⟩
  obtain ⟨s, hs⟩ : ∃ p, bsum d 64 = p := ⟨_, rfl⟩
  rw [hp] at O l1 hl
  rw [hq] at O2 l2 hl
  rw [hr] at O3 l3 hl
  rw [hs] at O4 l4 hl
  clear h h1 h2 h3 h4 hp hq hr hs
  have ix0 : ∀ w : World, (Instr.index 48 (.agg #[.int .u64 a, .int .u64 b, .int .u64 c, .int .u64 d]) (.int .i64 0)).run Tryd.prog w = .ok (.int .u64 a) w := fun _ => by kernel_rfl
  have ix1 : ∀ w : World, (Instr.index 48 (.agg #[.int .u64 a, .int .u64 b, .int .u64 c, .int .u64 d]) (.int .i64 1)).run Tryd.prog w = .ok (.int .u64 b) w := fun _ => by kernel_rfl
  have ix2 : ∀ w : World, (Instr.index 48 (.agg #[.int .u64 a, .int .u64 b, .int .u64 c, .int .u64 d]) (.int .i64 2)).run Tryd.prog w = .ok (.int .u64 c) w := fun _ => by kernel_rfl
  have ix3 : ∀ w : World, (Instr.index 48 (.agg #[.int .u64 a, .int .u64 b, .int .u64 c, .int .u64 d]) (.int .i64 3)).run Tryd.prog w = .ok (.int .u64 d) w := fun _ => by kernel_rfl
  go_enter Tryd.func33, Tryd.ntmps33
  go_wp2
  refine wp_loop_rounds 5 ?_
  rw [rounds_succ]
  go_wp2_with (go_at_call 49; refine (O.out _).mono ?_; rintro e w' ⟨rfl, rfl⟩)
  rw [rounds_succ]
  go_wp2_with (go_at_call 49; refine (O2.out _).mono ?_; rintro e w' ⟨rfl, rfl⟩)
  rw [rounds_succ]
  go_wp2_with (go_at_call 49; refine (O3.out _).mono ?_; rintro e w' ⟨rfl, rfl⟩)
  rw [rounds_succ]
  go_wp2_with (go_at_call 49; refine (O4.out _).mono ?_; rintro e w' ⟨rfl, rfl⟩)
  rw [rounds_succ]
  go_wp2
  go_ret
  exact ⟨by rw [hl]; simp, fb_alloc (Below.refl _ _) _⟩
end
end Go.Proofs.YtcgadmeagbcbnaaDoor
