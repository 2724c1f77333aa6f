/- Sets of places: what All answers. No condition. -/
import Derived.Test.YtcgadmeagbcbnaaDoorIdxBa
import Derived.Test.YtcgadmeagbcbnaaDoorTrailSince
import Derived.Test.YtcgadmeagbcbnaaDoorThroughB
namespace Go.Proofs.YtcgadmeagbcbnaaDoor
open Go.RowKit Go.Shelf
attribute [local go_sem] Oper.semAt_some

theorem quiet_add_same {P : Program} {f : FuncId} {args : Array Value} {w : World} {a n : Nat} {v : Value}
    (h : Calls P f args (w.drewN (a + n)) fun e w' => e = .returned v ∧ w' = w.drewN (a + n)) :
    Calls P f args (w.drewN (a + n)) fun e w'' => e = .returned v ∧ ∃ m, w'' = w.drewN (a + m) :=
  h.mono fun _ _ ⟨he, hm⟩ => ⟨he, n, hm⟩
/-- Places as numbers. -/
def zl (L : List Nat) : List Int := L.map (fun n : Nat => (n : Int))
theorem zl_len (L : List Nat) : (zl L).length = L.length := by simp [zl]
theorem zl_app (L M : List Nat) : zl (L ++ M) = zl L ++ zl M := by simp [zl]
theorem zl_get (L : List Nat) (k : Nat) : (zl L).getD k 0 = ((L.getD k 0 : Nat) : Int) := by
  simp only [zl, List.getD_eq_getElem?_getD, List.getElem?_map]
  cases L[k]? <;> simp
theorem infoI : (Tryd.prog.info? 3).map (fun i => (i.zero, i.size, i.bytes)) = some (some (.int .i64 0), 1, 8) := by kernel_rfl
/-- A list that came in, where it has a place: its form. -/
theorem ints_cell {w : World} {n : Nat} {v : Value} {L : List Nat} (h : Ints w n v (zl L)) {k : Nat} (hk : k < L.length) : ∃ b o c, v = .slice (some ⟨b, o, none⟩) L.length c ∧ b < n ∧ ∀ j, j < L.length → w.cell? ⟨b, o + j, none⟩ = some (.int .i64 ((L.getD j 0 : Nat) : Int)) := by
  rcases h with ⟨h, _⟩ | ⟨b, o, c, e, hl, h1, h2⟩
  · have := congrArg List.length h; rw [zl_len] at this; simp at this; subst this; simp at hk
  · rw [zl_len] at e h2
    exact ⟨b, o, c, e, h1, fun j hj => by rw [h2 j hj, zl_get]⟩
theorem ints_form {w : World} {n : Nat} {v : Value} {L : List Nat} (h : Ints w n v (zl L)) : ∃ a c, v = .slice a L.length c := by
  rcases h with ⟨h, a, c, e, _⟩ | ⟨b, o, c, e, _⟩
  · have := congrArg List.length h; rw [zl_len] at this; simp at this; subst this; exact ⟨a, c, e⟩
  · rw [zl_len] at e; exact ⟨_, c, e⟩
theorem each_any (a b c d : Nat) (w : World) : Calls Tryd.prog 45 #[sv a b c d] w fun e w' =>
    e = .returned (.func (.func 56) #[] #[.pointer (some ⟨w.heap.size, 0, none⟩)]) ∧ w.alloc (.cells #[.int .u64 a, .int .u64 b, .int .u64 c, .int .u64 d] 48) = w' := by
  unfold sv
  go_enter Tryd.func45, Tryd.ntmps45
  go_wp2
  go_ret
  exact ⟨rfl, rfl⟩
/-- What it reads. -/
structure EP (Bs a b c d : Nat) (W : World) : Prop where
  bx : Arr W Bs 48 [.int .u64 a, .int .u64 b, .int .u64 c, .int .u64 d]
  tab : TabAt W
  pos : 0 < W.heap.size
theorem size_putObj (W : World) (l : Nat) (o : Obj) : (W.putObj l o).heap.size = W.heap.size := by simp [World.putObj]
theorem EP.onCells (Bs a b c d : Nat) : OnCells (EP Bs a b c d) := fun W l _ o' hl ho h =>
  ⟨Arr.putObj hl ho h.bx, fun j hj => cell_putObj hl ho (h.tab j hj), by rw [size_putObj]; exact h.pos⟩
theorem EP.below {Bs a b c d : Nat} {W W' : World} (h : EP Bs a b c d W) (hb : Below W.heap.size W W') : EP Bs a b c d W' :=
  ⟨h.bx.below hb h.bx.lt, h.tab.below h.pos hb, Nat.lt_of_lt_of_le h.pos hb.size⟩
theorem take_len {L M : List Nat} (A : List Nat) (x : Nat) (h : ∃ R, L = A ++ [x] ++ R) (hk : M = A) : L[M.length]? = some x ∧ L.take (M.length + 1) = A ++ [x] := by
  obtain ⟨R, rfl⟩ := h
  subst hk
  constructor
  · simp
  · rw [List.take_append_of_le_length (by simp), List.take_of_length_le (by simp)]
theorem lstTo_pre (S : List Nat) (n m : Nat) (h : n ≤ m) : ∃ R, lstTo S m = lstTo S n ++ R := by
  induction m with
  | zero => exact ⟨[], by rw [show n = 0 by omega]; simp⟩
  | succ m ih =>
    rcases Nat.lt_or_ge m n with h1 | h1
    · exact ⟨[], by rw [show n = m + 1 by omega]; simp⟩
    · obtain ⟨R, hR⟩ := ih h1
      rw [lstTo_succ]
      split
      · exact ⟨R ++ [m], by rw [hR, List.append_assoc]⟩
      · exact ⟨R, hR⟩
def leftB (i : Int) : Nat := if i < 0 then 0 else (257 - i).toNat
set_option maxRecDepth 100000 in
set_option maxHeartbeats 2000000 in
theorem each1 (n : Nat) (hn : 1 ≤ n) (Bs a b c d : Nat) (h1 : a < 2 ^ 64) (h2 : b < 2 ^ 64) (h3 : c < 2 ^ 64) (h4 : d < 2 ^ 64) (w : World) (hP : EP Bs a b c d w) :
    HandsOverB n Tryd.prog 56 #[.pointer (some ⟨Bs, 0, none⟩)] (fun x : Nat => #[Value.int .i64 (x : Int)]) (KpOf (EP Bs a b c d)) (lst [a, b, c, d]) w := by
  intro l J W hW hY hJb h0
  have hPW := hP.below hW
  clear hP hW
  have hwf := wf_mk h1 h2 h3 h4
  have HN : Hid (∀ (i : Int) (W' : World), i ≤ 9223372036854775807 → EP Bs a b c d W' → Calls Tryd.prog 57 #[.agg #[.int .u64 a, .int .u64 b, .int .u64 c, .int .u64 d], .int .i64 i] W' (NextPost [a, b, c, d] i.toNat W')) :=
    fun i W' hi hE => bnext_any hwf i hi W' hE.tab hE.pos
  clear hwf h1 h2 h3 h4
  have c0 : W.cell? ⟨Bs, 0, none⟩ = some (.int .u64 a) := hPW.bx.cell 0
  have c1 : W.cell? ⟨Bs, 1, none⟩ = some (.int .u64 b) := hPW.bx.cell 1
  have c2 : W.cell? ⟨Bs, 2, none⟩ = some (.int .u64 c) := hPW.bx.cell 2
  have c3 : W.cell? ⟨Bs, 3, none⟩ = some (.int .u64 d) := hPW.bx.cell 3
  refine callsIn_of_wp Tryd.func56 rfl trivial ?_ rfl
  simp only [Tryd.ntmps56, List.size_toArray, List.length_cons, List.length_nil, Nat.reduceAdd, Nat.reduceSub, Array.replicate_succ, Array.replicate_zero, List.push_toArray, List.append_toArray, List.nil_append, List.cons_append]
  have HY := Lib.hid hY
  have HP := Lib.hid (And.intro hPW h0)
  have HJb := Lib.hid hJb
  clear hJb
  clear hY hPW h0
  gi_wp2_with (refine ⟨trivial, ?_⟩; gi_at_call 57; refine (callsIn_wide.2 (HN.out 0 _ (by omega) HP.out.1)).mono ?_; rintro e w' ⟨v, rfl, hv, hb⟩; have HV := Lib.hid (And.intro hv hb); clear hv hb)
  gi_loopw [3] (fun s wr => ∃ (k i : Nat) (v : Int), s = .int .i64 v ∧ i ≤ 256 ∧ NextR [a, b, c, d] i v ∧ (lst [a, b, c, d]).take k = lstTo [a, b, c, d] i ∧ k = (lstTo [a, b, c, d] i).length ∧ J k wr ∧ EP Bs a b c d wr) (fun s _ => leftB (intOf s))
  case atStart => exact ⟨0, 0, _, rfl, by omega, HV.out.1, by simp [lstTo], by simp [lstTo], HJb.out _ _ _ HP.out.2 HV.out.2, HP.out.1.below HV.out.2⟩
  case round =>
    obtain ⟨k, i, z, rfl, hi, hN, hT, hk, hJ, hPs⟩ := hrel
    rcases next_lst hN hi with ⟨rfl, hl⟩ | ⟨j, rfl, hij, hj, hlt, hhas⟩
    · have HJ := Lib.hid hJ
      clear hJ hT hN c0 c1 c2 c3
      gi_wp2
      go_end0
      refine ⟨⟨_, rfl⟩, ?_⟩
      rw [hl, ← hk]
      exact HJ.out
    · have d0 : wr.cell? ⟨Bs, 0, none⟩ = some (.int .u64 a) := hPs.bx.cell 0
      have d1 : wr.cell? ⟨Bs, 1, none⟩ = some (.int .u64 b) := hPs.bx.cell 1
      have d2 : wr.cell? ⟨Bs, 2, none⟩ = some (.int .u64 c) := hPs.bx.cell 2
      have d3 : wr.cell? ⟨Bs, 3, none⟩ = some (.int .u64 d) := hPs.bx.cell 3
      obtain ⟨hx, htk⟩ := take_len (L := lst [a, b, c, d]) (M := lstTo [a, b, c, d] i) (lstTo [a, b, c, d] i) j (by rw [← hlt]; obtain ⟨R, hR⟩ := lstTo_pre [a, b, c, d] (j + 1) 256 (by omega); exact ⟨R, hR⟩) rfl
      rw [← hk] at hx htk
      obtain ⟨fn, tmps, assign, body, hy, hR⟩ := HY.out k j wr hx hJ
      try dsimp only at hy
      have HF := Lib.hid (And.intro hk (And.intro hlt htk))
      have q0 : (0 : Int) ≤ j := by omega
      have HS := Lib.hid hPs
      clear hx htk hk hlt hT hN hJ hPs c0 c1 c2 c3 d0 d1 d2 d3 hhas
      gi_wp2
      refine hR.mono ?_
      rintro e W3 ⟨rfl, hJ3, hk3⟩
      have HE3 := Lib.hid (And.intro hJ3 (hk3 HS.out))
      have d0 : W3.cell? ⟨Bs, 0, none⟩ = some (.int .u64 a) := HE3.out.2.bx.cell 0
      have d1 : W3.cell? ⟨Bs, 1, none⟩ = some (.int .u64 b) := HE3.out.2.bx.cell 1
      have d2 : W3.cell? ⟨Bs, 2, none⟩ = some (.int .u64 c) := HE3.out.2.bx.cell 2
      have d3 : W3.cell? ⟨Bs, 3, none⟩ = some (.int .u64 d) := HE3.out.2.bx.cell 3
      clear hJ3 hk3
      gi_wp2_with (refine ⟨trivial, ?_⟩; gi_at_call 57; refine (callsIn_wide.2 (HN.out ((j : Int) + 1) _ (by omega) HE3.out.2)).mono ?_; rintro e w' ⟨v', rfl, hv, hb⟩; have HV' := Lib.hid (And.intro hv hb); clear hv hb)
      go_roundw
      case rel =>
        obtain ⟨hk, hlt, htk⟩ := HF.out
        have hv := HV'.out.1
        rw [show ((j : Int) + 1).toNat = j + 1 by omega] at hv
        exact ⟨k + 1, j + 1, v', rfl, by omega, hv, htk.trans hlt.symm, by rw [hlt, List.length_append, ← hk]; rfl, HJb.out _ _ _ HE3.out.1 HV'.out.2, HE3.out.2.below HV'.out.2⟩
      case measure =>
        have hv := HV'.out.1
        rw [show ((j : Int) + 1).toNat = j + 1 by omega] at hv
        have hge : v' = -1 ∨ (j : Int) + 1 ≤ v' := by
          rcases hv with ⟨e, _⟩ | ⟨m, e, h1, _⟩
          · exact .inl e
          · exact .inr (by omega)
        show leftB v' < leftB (j : Int)
        unfold leftB
        rw [if_neg (show ¬ (j : Int) < 0 by omega)]
        split <;> omega
/-- Between two rounds of All. -/
structure AI (w : World) (S : List Nat) (k : Nat) (W : World) : Prop where
  bel : Below w.heap.size w W
  bx : ∃ v, Boxed W (w.heap.size + 1) 34 v ∧ IRow W (w.heap.size + 3) v (zl ((lst S).take k))
theorem AI.kept {w : World} {S : List Nat} {k n : Nat} {W W' : World} {row : Option Nat} (h : AI w S k W) (hn : w.heap.size ≤ n) (hg : W.grownBy W' row) (hr : ∀ r, row = some r → n ≤ r ∧ ∃ o : Obj, W.heap[r]? = some o ∧ o.isCells = false) : AI w S k W' := by
  obtain ⟨v, h1, h2⟩ := h.bx
  refine ⟨h.bel.grown hg h.bel.size (fun k e => Nat.le_trans hn (hr k e).1), v, ownFrom_boxed (n := n) (fun _ : Unit => _) () W W' row h1 hg hr, ?_⟩
  refine World.ownsRow.kept h2 hg ?_
  rcases h2.2 with ⟨rfl, _⟩ | ⟨g, cap, cur, rfl, hb, hh, _⟩
  · exact .inl rfl
  · refine .inr (fun e => ?_)
    obtain ⟨_, o, ho, hc⟩ := hr g (by rw [← e]; rfl)
    rw [hh] at ho; injection ho with ho; rw [← ho] at hc; cases hc
theorem own_mono {W : World} {b b' : Nat} {e : TypeId} {size n : Nat} {v : Value} {xs : List Value} (h : W.ownsRow b' e size v n xs) (hb : b ≤ b') : W.ownsRow b e size v n xs := by
  refine ⟨h.1, ?_⟩
  rcases h.2 with c | ⟨g, cap, cur, e, hg, r⟩
  · exact .inl c
  · exact .inr ⟨g, cap, cur, e, Nat.le_trans hb hg, r⟩
theorem AI.below {w : World} {S : List Nat} {k : Nat} {W W' : World} (h : AI w S k W) (hb : Below W.heap.size W W') : AI w S k W' := by
  obtain ⟨v, h1, h2⟩ := h.bx
  exact ⟨h.bel.trans (hb.mono h.bel.size), v, (hb.block _ h1.lt).trans h1, IRow.below h2 hb⟩
def FRB (a b c d : Nat) (w : World) (x : Nat) : Array Value := #[.agg #[.int .u64 a, .int .u64 b, .int .u64 c, .int .u64 d], .pointer (some ⟨w.heap.size, 0, none⟩), .slice none 0 0, .pointer (some ⟨w.heap.size + 1, 0, none⟩), .int .i64 x, .agg #[.int .u64 a, .int .u64 b, .int .u64 c, .int .u64 d],
  .func (.func 56) #[] #[.pointer (some ⟨w.heap.size + 1 + 1, 0, none⟩)], .int .i64 x, undef, undef, undef, undef, undef]
set_option maxRecDepth 100000 in
set_option maxHeartbeats 2000000 in
theorem ball_any {S : List Nat} (h : wfB S) (w : World) (hT : TabAt w) (h0 : 0 < w.heap.size) : Calls Tryd.prog 24 #[svL S] w fun e w' => ∃ v, e = .returned v ∧ Ints w' w'.heap.size v (zl (lst S)) ∧ Below w.heap.size w w' := by
  obtain ⟨i0, hi, hz0, hz1, hz2⟩ := info_parts infoI
  obtain ⟨a, b, c, d, rfl, h1, h2, h3, h4⟩ := wf_form h
  show Calls Tryd.prog 24 #[sv a b c d] w _
  unfold sv
  have hlen : ∀ k, (zl ((lst [a, b, c, d]).take k)).length ≤ 256 := fun k => by
    have := lst_len [a, b, c, d] 256
    rw [zl_len, List.length_take]
    show min k (lstTo [a, b, c, d] 256).length ≤ 256
    omega
  have HLN := Lib.hid hlen
  have hU := Tryd.underlying34
  have HT := Lib.hid (And.intro hT h0)
  clear h hT h0 hlen
  refine (callsIn_wide (n := 5)).1 ?_
  refine callsIn_of_wp_marks Tryd.func24 rfl trivial ?_ rfl
  simp only [Tryd.ntmps24, List.size_toArray, List.length_cons, List.length_nil, Nat.reduceAdd, Nat.reduceSub, Array.replicate_succ, Array.replicate_zero, List.push_toArray, List.append_toArray, List.nil_append, List.cons_append]
  gi_wp2_with (refine ⟨trivial, ?_⟩; gi_at_call 45; refine (callsIn_wide.2 (each_any _ _ _ _ _)).mono ?_; rintro e w' ⟨rfl, rfl⟩)
  have hb : Below w.heap.size w (((w.alloc (.cells #[.int .u64 (a : Int), .int .u64 (b : Int), .int .u64 (c : Int), .int .u64 (d : Int)] 48)).alloc (.cells #[.slice none 0 0] 34)).alloc (.cells #[.int .u64 (a : Int), .int .u64 (b : Int), .int .u64 (c : Int), .int .u64 (d : Int)] 48)) := fb_alloc (fb_alloc (fb_alloc (Below.refl _ _) _) _) _
  have b1 := Boxed.alloc (Boxed.new (w.alloc (.cells #[.int .u64 (a : Int), .int .u64 (b : Int), .int .u64 (c : Int), .int .u64 (d : Int)] 48)) 34 (.slice none 0 0)) (.cells #[.int .u64 (a : Int), .int .u64 (b : Int), .int .u64 (c : Int), .int .u64 (d : Int)] 48)
  have b2 := Arr.new ((w.alloc (.cells #[.int .u64 (a : Int), .int .u64 (b : Int), .int .u64 (c : Int), .int .u64 (d : Int)] 48)).alloc (.cells #[.slice none 0 0] 34)) 48 [.int .u64 (a : Int), .int .u64 (b : Int), .int .u64 (c : Int), .int .u64 (d : Int)]
  simp only [World.size_alloc] at b1 b2
  obtain ⟨W0, hW0⟩ : ∃ W0, (((w.alloc (.cells #[.int .u64 (a : Int), .int .u64 (b : Int), .int .u64 (c : Int), .int .u64 (d : Int)] 48)).alloc (.cells #[.slice none 0 0] 34)).alloc (.cells #[.int .u64 (a : Int), .int .u64 (b : Int), .int .u64 (c : Int), .int .u64 (d : Int)] 48)) = W0 := ⟨_, rfl⟩
  have hsz : W0.heap.size = w.heap.size + 1 + 1 + 1 := by rw [← hW0]; simp
  rw [hW0] at hb ⊢
  have b2' : Arr W0 (w.heap.size + 1 + 1) 48 [.int .u64 a, .int .u64 b, .int .u64 c, .int .u64 d] := by rw [← hW0]; exact b2
  rw [hW0] at b1
  have hEP : EP (w.heap.size + 1 + 1) a b c d W0 := ⟨b2', HT.out.1.below HT.out.2 hb, by omega⟩
  have hAI : AI w [a, b, c, d] 0 W0 := ⟨hb, _, b1, IRow.nil _ _⟩
  clear hW0 b1 b2 b2' hb
  have HSZ := Lib.hid hsz
  clear hsz
  refine wpIn_throughB (gf := 56) (lb := #[.pointer (some ⟨w.heap.size + 1 + 1, 0, none⟩)]) rfl (enters_of Tryd.func56 (by kernel_rfl) rfl) (w0 := W0) (Below.refl _ _)
    (each1 4 (by omega) (w.heap.size + 1 + 1) a b c d h1 h2 h3 h4 W0 hEP) (fun h k => kpOf_t h k) (fun W l o o' => kpOf_b (EP.onCells _ _ _ _ _) W l o o') (fun _ => rfl)
    (AI w [a, b, c, d]) (fun k A B row hs' hg hr => hs'.kept (n := W0.heap.size) (by rw [HSZ.out]; omega) hg hr) (fun k A B h hb => h.below hb) hAI
    (fun k x a' W => AI w [a, b, c, d] k W ∧ a' = { tmps := FRB a b c d w x, defers := [] }) ?hAx ?assign ?body ?done
  case hAx => exact fun k x a' _ A B row hs' hg hr => ⟨hs'.1.kept (n := W0.heap.size) (by rw [HSZ.out]; omega) hg hr, hs'.2⟩
  case assign =>
    intro l k x W K hx hI hK
    have HK := Lib.hid (hK { tmps := FRB a b c d w x, defers := [] } W (KeepsFrom.refl _ _) (fun h => h) ⟨hI, rfl⟩)
    clear hK hI
    gi_wp2
    exact HK.out
  case body =>
    rintro l k x a' W hx ⟨hI, rfl⟩
    obtain ⟨v, hbx, hrow⟩ := hI.bx
    obtain ⟨sx, scap, rfl⟩ := IRow.any hrow
    have hsl := HLN.out k
    have hsz := HSZ.out
    have HI := Lib.hid (And.intro hI (And.intro hbx hx))
    have d0 := hbx.cell
    have d1 := hbx.frozen
    unfold FRB
    clear hI hbx hx
    gi_wp2_with (gi_at_builtin; refine wpListIn_append_own _ rfl _ _ 34 rfl (w.heap.size + 3) 3 i0 (.int .i64 0) 1 8 hU hi hz0 hz1 hz2 rfl (by decide) _ _ _ rfl (hrow.alloc _) ⟨W.heap.size, 0, none⟩ 1 1 [.int .i64 x] rfl rfl (cell_one_new _ _ _) (by simp [Value.oneCell']) (by unfold maxLen; omega) (by omega) (by have := HI.out.2.1.lt; have := HI.out.1.bel.size; have := W.heap.size; simp; omega) ?_; intro v' w1 hown' hgrow hfr'; have hrow' := IRow.app hown'; obtain ⟨sx', sc', rfl⟩ := IRow.any hrow'; have hap := Boxed.appended HI.out.2.1 (by decide) (own_mono hrow (by omega : w.heap.size + 1 ≤ w.heap.size + 3)) (by have := HI.out.2.1.lt; omega) (Nat.le_refl _) (own_mono hown' (by omega : w.heap.size + 1 ≤ w.heap.size + 3)) hgrow; have e0 := hap.1.cell; have e1 := hap.1.frozen)
    have hl1 : (zl ((lst [a, b, c, d]).take k) ++ [(x : Int)]).length = (zl ((lst [a, b, c, d]).take k)).length + 1 := by simp
    have hzk : zl ((lst [a, b, c, d]).take (k + 1)) = zl ((lst [a, b, c, d]).take k) ++ [(x : Int)] := by
      rw [List.take_add_one, HI.out.2.2, zl_app]; rfl
    rw [hl1] at hap hrow' hown'
    refine ⟨hap.2.2.2.1.from _, fun hE => ⟨?_, ?_, Nat.lt_of_lt_of_le hE.pos hap.2.2.2.1.size⟩, HI.out.1.bel.trans (hap.2.2.2.2.mono (by omega)), _, hap.2.1, ?_⟩
    · exact ((hE.bx.alloc _).kept hgrow (fun e => by have := (World.ownsRow.lt hrow _ e.symm).1; omega)).set_other _ _ (by show w.heap.size + 1 + 1 ≠ w.heap.size + 1; omega)
    · exact fun j hj => (hap.2.2.2.2.cell (p := ⟨0, j, none⟩) (by show 0 < w.heap.size + 1; omega)).trans (hE.tab j hj)
    · rw [hzk]
      exact IRow.other hrow' _ _ (hap.1.not_row (by decide) hown').symm
  case done =>
    intro D W hD hI hK
    obtain ⟨v, hbx, hrow⟩ := hI.bx
    have d0 := hbx.cell
    have HX := Lib.hid (And.intro hI (And.intro hrow (And.intro hK hD)))
    clear hI hrow hK hD hbx
    gi_wp2
    have e1 : zl ((lst [a, b, c, d]).take (lst [a, b, c, d]).length) = zl (lst [a, b, c, d]) := by rw [List.take_length]
    have hKD : W.heap[D]? = some (.deferred (some [])) := HX.out.2.2.1
    have hD : w.heap.size ≤ D := by have := HX.out.2.2.2; have := HSZ.out; omega
    have hr2 := HX.out.2.1
    rw [e1] at hr2
    have hAI' := (HX.out.1).kept (n := w.heap.size) (Nat.le_refl _) (grownBy_putObj' W D (.deferred none)) (fun r e => by cases e; exact ⟨hD, _, hKD, rfl⟩)
    refine ⟨by simp, .inl ⟨_, _, rfl, run_takeDeferred hKD, ?_⟩⟩
    refine ⟨v, by simp [results, Tryd.f24, go_sem], v, rfl, ?_, hAI'.bel⟩
    refine IRow.ints (base := w.heap.size + 3) (IRow.kept hr2 (grownBy_putObj' _ D _) ?_) (Nat.le_refl _)
    rcases hr2.2 with ⟨rfl, _⟩ | ⟨g, cap, cur, rfl, hb, hh, _⟩
    · exact .inl rfl
    · refine .inr (fun e => ?_)
      obtain rfl : g = D := by simpa [Value.ownBlock] using e
      rw [hh] at hKD; cases hKD
end Go.Proofs.YtcgadmeagbcbnaaDoor
