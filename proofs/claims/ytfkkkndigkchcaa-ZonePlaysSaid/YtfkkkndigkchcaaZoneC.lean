/- The walk of List. No condition. -/
import Derived.Test.YtfkkkndigkchcaaZoneB
import Derived.Test.YtfkkkndigkchcaaThroughB
import Derived.Test.YtfkkkndigkchcaaQTailIn
import Derived.Laws.EntriesVeiled
namespace Go.Proofs.Ytfkkkndigkchcaa
open Go.RowKit Go.Shelf
attribute [local irreducible] Calls
attribute [local go_sem] Oper.semAt_some

theorem zof_any (v : Value) (hv : v = .pointer none ∨ ∃ B, v = .pointer (some ⟨B, 0, none⟩)) (z : Int) (w : World) : Calls Try.prog 80 #[v, .int .i64 z] w fun e w' =>
    e = .returned (.func (.func 88) #[] #[.pointer (some ⟨w.heap.size, 0, none⟩), .pointer (some ⟨w.heap.size + 1, 0, none⟩)]) ∧ (w.alloc (.cells #[v] 49)).alloc (.cells #[.int .i64 z] 3) = w' := by
  rcases hv with rfl | ⟨B, rfl⟩
  · go_enter Try.func80, Try.ntmps80
    go_wp2
    go_ret
    exact ⟨rfl, rfl⟩
  · go_enter Try.func80, Try.ntmps80
    go_wp2
    go_ret
    exact ⟨rfl, rfl⟩
/-- What its iterator reads. -/
structure LP (w : World) (v : Value) (z : Int) (Bz Bi : Nat) (W : World) : Prop where
  bel : Below w.heap.size w W
  bz : Boxed W Bz 49 v
  bi : Boxed W Bi 3 (.int .i64 z)
theorem LP.below {w : World} {v : Value} {z : Int} {Bz Bi : Nat} {W W' : World} (h : LP w v z Bz Bi W) (hb : Below W.heap.size W W') : LP w v z Bz Bi W' :=
  ⟨h.bel.trans (hb.mono h.bel.size), (hb.block Bz h.bz.lt).trans h.bz, (hb.block Bi h.bi.lt).trans h.bi⟩
theorem LP.put {w : World} {v : Value} {z : Int} {Bz Bi : Nat} {W : World} {l : Nat} {o : Obj} (o' : Obj) (h : LP w v z Bz Bi W) (hl : w.heap.size ≤ l) (ho : W.heap[l]? = some o) (hc : o.isCells = false) : LP w v z Bz Bi (W.putObj l o') :=
  ⟨h.bel.grown (grownBy_putObj' W l o') h.bel.size (fun k e => by cases e; exact hl), Boxed.putObj ho hc h.bz, Boxed.putObj ho hc h.bi⟩
set_option maxRecDepth 100000 in
set_option maxHeartbeats 2000000 in
/-- Of a list that has nothing. -/
theorem of1_none (n : Nat) (hn : 1 ≤ n) (w : World) (v : Value) (z : Int) (Bz Bi : Nat) (hL : ∀ W, Below w.heap.size w W → Calls Try.prog 42 #[v, .int .i64 z] W fun e w' => e = .returned (.int .i64 0) ∧ Below W.heap.size W w') (w1 : World) (hP : LP w v z Bz Bi w1) :
    HandsOverB n Try.prog 88 #[.pointer (some ⟨Bz, 0, none⟩), .pointer (some ⟨Bi, 0, none⟩)] (fun x : Nat => #[Value.int .i64 (x : Int)]) (KpOf (LP w v z Bz Bi)) [] w1 := by
  intro l J W hW hY hJb h0
  have hPW := hP.below hW
  clear hP hW hY
  have c0 := hPW.bz.cell
  have c1 := hPW.bi.cell
  have HL := Lib.hid (hL W hPW.bel)
  have HJ := Lib.hid h0
  have HJb := Lib.hid hJb
  clear hL hPW hJb h0
  refine callsIn_of_wp Try.func88 rfl trivial ?_ rfl
  simp only [Try.ntmps88, List.size_toArray, List.length_cons, List.length_nil, Nat.reduceAdd, Nat.reduceSub, Array.replicate_succ, Array.replicate_zero, List.push_toArray, List.append_toArray, List.nil_append, List.cons_append]
  gi_wp2_with (refine ⟨trivial, ?_⟩; gi_at_call 42; refine (callsIn_wide.2 HL.out).mono ?_; rintro e w' ⟨rfl, hb⟩; have HV := Lib.hid hb; clear hb)
  gi_loopw [4, 8] (fun _ x wr => x = .int .i64 0 ∧ J 0 wr) (fun _ _ _ => 0)
  case atStart => exact ⟨rfl, HJb.out _ _ _ HJ.out HV.out⟩
  case round =>
    obtain ⟨rfl, hJ⟩ := hrel
    have HJ := Lib.hid hJ
    clear hJ
    gi_wp2
    go_end0
    exact ⟨⟨_, rfl⟩, HJ.out⟩
set_option maxRecDepth 100000 in
set_option maxHeartbeats 2000000 in
theorem of1_in (n : Nat) (hn : 1 ≤ n) {w0 w : World} {col : Nat → Nat} {c k : Nat} {b : ZB} {g : ZG} {q : List Int × List (Int × Int)} {m : ZM} (h : ZS w0 w col c b g k q m) (z : Nat) (hz : z < g.zones) (Bz Bi : Nat) (L : List Nat) (hN : m.N z = (L.length : Nat))
    (hC : ∀ j, j < L.length → m.C z j = (L.getD j 0 : Nat)) (hl : L.length ≤ g.slots) (w1 : World) (hP : LP w (.pointer (some ⟨b.Z, 0, none⟩)) z Bz Bi w1) :
    HandsOverB n Try.prog 88 #[.pointer (some ⟨Bz, 0, none⟩), .pointer (some ⟨Bi, 0, none⟩)] (fun x : Nat => #[Value.int .i64 (x : Int)]) (KpOf (LP w (.pointer (some ⟨b.Z, 0, none⟩)) z Bz Bi)) L w1 := by
  intro l J W hW hY hJb h0
  have hPW := hP.below hW
  clear hP hW
  have hL256 : L.length ≤ 256 := Nat.le_trans hl h.sm.s2
  have HL : Hid (∀ W, LP w (.pointer (some ⟨b.Z, 0, none⟩)) z Bz Bi W → Calls Try.prog 42 #[.pointer (some ⟨b.Z, 0, none⟩), .int .i64 (z : Int)] W fun e w' => e = .returned (.int .i64 (L.length : Nat)) ∧ Below W.heap.size W w') :=
    Lib.hid fun W hp => hN ▸ zlen_in (h.below hp.bel c) z hz
  have HC : Hid (∀ W, LP w (.pointer (some ⟨b.Z, 0, none⟩)) z Bz Bi W → ∀ j, j < L.length → Calls Try.prog 76 #[.int .i64 (z : Int), .int .i64 (j : Int), .pointer (some ⟨b.L, 0, none⟩), .pointer (some ⟨b.S, 0, none⟩)] W fun e w' => e = .returned (.int .i64 (g.C z j)) ∧ W = w') :=
    Lib.hid fun W hp j hj => cell_any (h.fo.below hp.bel) h.sm z j hz (Nat.lt_of_lt_of_le hj hl)
  have HG : Hid (∀ W, LP w (.pointer (some ⟨b.Z, 0, none⟩)) z Bz Bi W → ∀ j, j < L.length → Calls Try.prog 30 #[.pointer (some ⟨b.T, 0, none⟩), .int .i64 (g.C z j)] W fun e w' => e = .returned (.int .i64 (L.getD j 0 : Nat)) ∧ W = w') :=
    Lib.hid fun W hp j hj => zs_get (h.below hp.bel c) (g.C z j) _ (fun cs hc => (hc.c z j hz (Nat.lt_of_lt_of_le hj hl)).trans (hC j hj))
  have HF : Hid (∀ W, LP w (.pointer (some ⟨b.Z, 0, none⟩)) z Bz Bi W → ZoF W b g) := Lib.hid fun W hp => h.fo.below hp.bel
  have c0 := hPW.bz.cell
  have c1 := hPW.bi.cell
  clear h hN hC hl
  have HY := Lib.hid hY
  have HJ := Lib.hid (And.intro h0 hPW)
  have HJb := Lib.hid hJb
  clear hPW hJb h0 hY
  refine callsIn_of_wp Try.func88 rfl trivial ?_ rfl
  simp only [Try.ntmps88, List.size_toArray, List.length_cons, List.length_nil, Nat.reduceAdd, Nat.reduceSub, Array.replicate_succ, Array.replicate_zero, List.push_toArray, List.append_toArray, List.nil_append, List.cons_append]
  gi_wp2_with (refine ⟨trivial, ?_⟩; gi_at_call 42; refine (callsIn_wide.2 (HL.out W HJ.out.2)).mono ?_; rintro e w' ⟨rfl, hb⟩; have HV := Lib.hid hb; clear hb)
  clear c0 c1
  gi_loopw [4, 8] (fun _ x wr => ∃ i : Nat, i ≤ L.length ∧ x = .int .i64 i ∧ J i wr ∧ LP w (.pointer (some ⟨b.Z, 0, none⟩)) z Bz Bi wr) (fun _ x _ => L.length - (intOf x).toNat)
  case atStart => exact ⟨0, Nat.zero_le _, rfl, HJb.out _ _ _ HJ.out.1 HV.out, HJ.out.2.below HV.out⟩
  case round =>
    obtain ⟨i, hi, rfl, hJ, hPr⟩ := hrel
    by_cases hlt : i < L.length
    · have hF := HF.out wr hPr
      have k0 : ∀ u, (lat wr u).cell? ⟨b.Z, 0, none⟩ = some (.pointer (some ⟨b.T, 0, none⟩)) := fun u => (hF.z.below (bel_lat0 wr u) hF.z.lt).cell 0
      have kC : ∀ u, (lat wr u).cell? ⟨b.Z, 4, none⟩ = some (.func (.func 76) #[] #[.pointer (some ⟨b.L, 0, none⟩), .pointer (some ⟨b.S, 0, none⟩)]) := fun u => (hF.z.below (bel_lat0 wr u) hF.z.lt).cell 4
      have cz : ∀ u, (lat wr u).cell? ⟨Bz, 0, none⟩ = some (.pointer (some ⟨b.Z, 0, none⟩)) := fun u => (hPr.below (bel_lat0 wr u)).bz.cell
      have ci : ∀ u, (lat wr u).cell? ⟨Bi, 0, none⟩ = some (.int .i64 (z : Int)) := fun u => (hPr.below (bel_lat0 wr u)).bi.cell
      have qn := Lib.hid (fun u => HC.out _ (hPr.below (bel_lat0 wr u)) i hlt)
      have qt := Lib.hid (fun u => HG.out _ (hPr.below (bel_lat0 wr u)) i hlt)
      have hx : L[i]? = some (L.getD i 0) := by rw [List.getD_eq_getElem?_getD, List.getElem?_eq_getElem hlt]; rfl
      generalize L.getD i 0 = x at qt hx
      generalize g.C z i = X at qn qt
      have HR := Lib.hid (And.intro hx (And.intro hJ hPr))
      clear hx hJ hPr hF
      gi_wp2_with fail
      refine wpWide_region_lat_tail 13 (by kernel_rfl) (by kernel_rfl) ?_
      simp only [List.take_succ_cons, List.take_zero, List.drop_succ_cons, List.drop_zero]
      repeat (go_big_quiet_step (first | (go_at_call 76; exact quiet_lat_same (qn.out _)) | (go_at_call 30; exact quiet_lat_same (qt.out _))))
      refine wpQuiet_nil ?_
      intro _ hw'
      obtain ⟨nu, hw''⟩ := hw'
      subst hw''
      obtain ⟨fn, tmps, assign, body, hy, hR⟩ := HY.out i x (lat wr nu) HR.out.1 (HJb.out _ _ _ HR.out.2.1 (bel_lat0 wr nu))
      try dsimp only at hy
      have HS := Lib.hid (HR.out.2.2.below (bel_lat0 wr nu))
      clear k0 kC cz ci qn qt
      gi_wp2
      refine hR.mono ?_
      rintro e W3 ⟨rfl, hJ3, hk3⟩
      have HE3 := Lib.hid (And.intro hJ3 (hk3 HS.out))
      clear hJ3 hk3
      gi_wp2
      go_roundw
      case rel => exact ⟨i + 1, by omega, by go_num, HE3.out.1, HE3.out.2⟩
      case measure => simp [intOf]; omega
    · obtain rfl : i = L.length := by omega
      have HJ := Lib.hid hJ
      clear hJ hPr
      gi_wp2
      go_end0
      exact ⟨⟨_, rfl⟩, HJ.out⟩
/-- Between two rounds of List: the box of the row. -/
structure LI (w : World) (v : Value) (z : Int) (L : List Nat) (k : Nat) (W : World) : Prop where
  p : LP w v z (w.heap.size + 1) (w.heap.size + 1 + 1) W
  bx : ∃ r, Boxed W w.heap.size 34 r ∧ IRow W (w.heap.size + 1 + 1 + 1) r ((L.take k).map fun n : Nat => (n : Int))
theorem own_mono {W : World} {b b' : Nat} {e : TypeId} {size n : Nat} {v : Value} {xs : List Value} (h : W.ownsRow b' e size v n xs) (hb : b ≤ b') : W.ownsRow b e size v n xs := by
  refine ⟨h.1, ?_⟩
  rcases h.2 with c | ⟨g, cap, cur, e, hg, r⟩
  · exact .inl c
  · exact .inr ⟨g, cap, cur, e, Nat.le_trans hb hg, r⟩
theorem row_kept_of {W W' : World} {row : Option Nat} {base : Nat} {v : Value} {l : List Int} (h : IRow W base v l) (hg : W.grownBy W' row) (hr : ∀ r, row = some r → ∃ o : Obj, W.heap[r]? = some o ∧ o.isCells = false) : IRow W' base v l := by
  refine World.ownsRow.kept h hg ?_
  rcases h.2 with ⟨rfl, _⟩ | ⟨g, cap, cur, rfl, hb, hh, _⟩
  · exact .inl rfl
  · refine .inr (fun e => ?_)
    obtain ⟨o, ho, hc⟩ := hr g (by rw [← e]; rfl)
    rw [hh] at ho; injection ho with ho; rw [← ho] at hc; cases hc
theorem LI.kept {w : World} {v : Value} {z : Int} {L : List Nat} {k n : Nat} {W W' : World} {row : Option Nat} (h : LI w v z L k W) (hn : w.heap.size ≤ n) (hg : W.grownBy W' row) (hr : ∀ r, row = some r → n ≤ r ∧ ∃ o : Obj, W.heap[r]? = some o ∧ o.isCells = false) : LI w v z L k W' := by
  obtain ⟨r, h1, h2⟩ := h.bx
  exact ⟨⟨h.p.bel.grown hg h.p.bel.size (fun k e => Nat.le_trans hn (hr k e).1), ownFrom_boxed (n := n) (fun _ : Unit => _) () W W' row h.p.bz hg hr, ownFrom_boxed (n := n) (fun _ : Unit => _) () W W' row h.p.bi hg hr⟩,
    r, ownFrom_boxed (n := n) (fun _ : Unit => _) () W W' row h1 hg hr, row_kept_of h2 hg fun r e => (hr r e).2⟩
theorem LI.below {w : World} {v : Value} {z : Int} {L : List Nat} {k : Nat} {W W' : World} (h : LI w v z L k W) (hb : Below W.heap.size W W') : LI w v z L k W' := by
  obtain ⟨r, h1, h2⟩ := h.bx
  exact ⟨h.p.below hb, r, (hb.block _ h1.lt).trans h1, IRow.below h2 hb⟩
theorem boxed_set_other {W : World} {B : Nat} {t : TypeId} {v : Value} (h : Boxed W B t v) (a : Addr) (u : Value) (hne : B ≠ a.block) : Boxed (W.setCell a u) B t v := (heap_setCell_other W a B u hne).trans h
def FRL (v : Value) (z : Int) (n : Nat) (x : Nat) : Array Value := #[v, .int .i64 z, undef, undef, .slice none 0 0, .pointer (some ⟨n, 0, none⟩), .int .i64 x, v, .int .i64 z,
  .func (.func 88) #[] #[.pointer (some ⟨n + 1, 0, none⟩), .pointer (some ⟨n + 1 + 1, 0, none⟩)], .int .i64 x, undef, undef, undef, undef, undef]
theorem zl_len' (l : List Nat) : (l.map fun n : Nat => (n : Int)).length = l.length := by simp
set_option maxRecDepth 100000 in
set_option maxHeartbeats 2000000 in
theorem zlist_of (w : World) (v : Value) (hv : v = .pointer none ∨ ∃ B, v = .pointer (some ⟨B, 0, none⟩)) (z : Int) (L : List Nat) (hL : L.length ≤ 256)
    (hseq : ∀ w1, LP w v z (w.heap.size + 1) (w.heap.size + 1 + 1) w1 → HandsOverB 4 Try.prog 88 #[.pointer (some ⟨w.heap.size + 1, 0, none⟩), .pointer (some ⟨w.heap.size + 1 + 1, 0, none⟩)] (fun x : Nat => #[Value.int .i64 (x : Int)]) (KpOf (LP w v z (w.heap.size + 1) (w.heap.size + 1 + 1))) L w1) :
    Calls Try.prog 39 #[v, .int .i64 z] w fun e w' => ∃ r, e = .returned r ∧ IRow w' w.heap.size r (L.map fun n : Nat => (n : Int)) ∧ Below w.heap.size w w' := by
  obtain ⟨i0, hi, hz0, hz1, hz2⟩ := info_parts infoInt
  have hU := Try.underlying34
  have HQ := Lib.hid hseq
  have hof := Lib.hid (zof_any v hv z)
  have hlen : ∀ k, ((L.take k).map fun n : Nat => (n : Int)).length ≤ 256 := fun k => by
    rw [zl_len', List.length_take]; omega
  have HLN := Lib.hid hlen
  clear hseq hv hL hlen
  refine (callsIn_wide (n := 5)).1 ?_
  refine callsIn_of_wp_marks Try.func39 rfl trivial ?_ rfl
  simp only [Try.ntmps39, List.size_toArray, List.length_cons, List.length_nil, Nat.reduceAdd, Nat.reduceSub, Array.replicate_succ, Array.replicate_zero, List.push_toArray, List.append_toArray, List.nil_append, List.cons_append]
  gi_wp2_with (refine ⟨trivial, ?_⟩; gi_at_call 80; refine (callsIn_wide.2 (hof.out _)).mono ?_; rintro e w' ⟨rfl, rfl⟩)
  have hb : Below w.heap.size w (((w.alloc (.cells #[.slice none 0 0] 34)).alloc (.cells #[v] 49)).alloc (.cells #[.int .i64 z] 3)) := fb_alloc (fb_alloc (fb_alloc (Below.refl _ _) _) _) _
  have b1 := Boxed.alloc (Boxed.alloc (Boxed.new w 34 (.slice none 0 0)) (.cells #[v] 49)) (.cells #[.int .i64 z] 3)
  have b2 := Boxed.alloc (Boxed.new (w.alloc (.cells #[.slice none 0 0] 34)) 49 v) (.cells #[.int .i64 z] 3)
  have b3 := Boxed.new ((w.alloc (.cells #[.slice none 0 0] 34)).alloc (.cells #[v] 49)) 3 (.int .i64 z)
  simp only [World.size_alloc] at b1 b2 b3
  obtain ⟨W0, hW0⟩ : ∃ W0, (((w.alloc (.cells #[.slice none 0 0] 34)).alloc (.cells #[v] 49)).alloc (.cells #[.int .i64 z] 3)) = W0 := ⟨_, rfl⟩
  have hsz : W0.heap.size = w.heap.size + 1 + 1 + 1 := by rw [← hW0]; simp
  rw [hW0] at hb b1 b2 b3 ⊢
  have hLP : LP w v z (w.heap.size + 1) (w.heap.size + 1 + 1) W0 := ⟨hb, b2, b3⟩
  have hLI : LI w v z L 0 W0 := ⟨hLP, _, b1, by rw [List.take_zero]; exact IRow.nil _ _⟩
  clear hW0 b1 b2 b3 hb hof
  have HSZ := Lib.hid hsz
  clear hsz
  refine wpIn_throughB (gf := 88) (lb := #[.pointer (some ⟨w.heap.size + 1, 0, none⟩), .pointer (some ⟨w.heap.size + 1 + 1, 0, none⟩)]) rfl (enters_of Try.func88 (by kernel_rfl) rfl) (w0 := W0) (Below.refl _ _)
    (HQ.out W0 hLP) (fun h k => kpOf_t h k) (fun W l o o' hl ho hc _ hp => hp.put o' (by have := HSZ.out; omega) ho hc) (fun _ => rfl)
    (LI w v z L) (fun k A B row hs' hg hr => hs'.kept (n := W0.heap.size) (by rw [HSZ.out]; omega) hg hr) (fun k A B h hb => h.below hb) hLI
    (fun k x a' W => LI w v z L k W ∧ a' = { tmps := FRL v z w.heap.size x, defers := [] }) ?hAx ?assign ?body ?done
  case hAx => exact fun k x a' _ A B row hs' hg hr => ⟨hs'.1.kept (n := W0.heap.size) (by rw [HSZ.out]; omega) hg hr, hs'.2⟩
  case assign =>
    intro l k x W K hx hI hK
    have HK := Lib.hid (hK { tmps := FRL v z w.heap.size x, defers := [] } W (KeepsFrom.refl _ _) (fun h => h) ⟨hI, rfl⟩)
    clear hK hI
    gi_wp2
    exact HK.out
  case body =>
    rintro l k x a' W hx ⟨hI, rfl⟩
    obtain ⟨r, hbx, hrow⟩ := hI.bx
    have hsl := HLN.out k
    obtain ⟨A, hA⟩ : ∃ A, ((L.take k).map fun n : Nat => (n : Int)) = A := ⟨_, rfl⟩
    rw [hA] at hrow hsl
    have HA := Lib.hid hA
    clear hA
    obtain ⟨sx, scap, rfl⟩ := IRow.any hrow
    have hsz := HSZ.out
    have HI := Lib.hid (And.intro hI (And.intro hbx hx))
    have d0 := hbx.cell
    have d1 := hbx.frozen
    unfold FRL
    clear hI hbx hx
    gi_wp2_with (gi_at_builtin; refine wpListIn_append_own _ rfl _ _ 34 rfl (w.heap.size + 1 + 1 + 1) 3 i0 (.int .i64 0) 1 8 hU hi hz0 hz1 hz2 rfl (by decide) _ _ _ rfl (hrow.alloc _) ⟨W.heap.size, 0, none⟩ 1 1 [.int .i64 x] rfl rfl (cell_one_new _ _ _) (by simp [Value.oneCell']) (by unfold maxLen; omega) (by omega) (by have := HI.out.2.1.lt; have := HI.out.1.p.bel.size; have := HI.out.1.p.bi.lt; simp; omega) ?_; intro v' w1 hown' hgrow hfr'; have hrow' := IRow.app hown'; obtain ⟨sx', sc', rfl⟩ := IRow.any hrow'; have hap := Boxed.appended HI.out.2.1 (by decide) (own_mono hrow (by omega : w.heap.size ≤ w.heap.size + 1 + 1 + 1)) (by have := HI.out.2.1.lt; omega) (Nat.le_refl _) (own_mono hown' (by omega : w.heap.size ≤ w.heap.size + 1 + 1 + 1)) hgrow; have e0 := hap.1.cell; have e1 := hap.1.frozen)
    have hl1 : (A ++ [(x : Int)]).length = A.length + 1 := by simp
    have hzk : ((L.take (k + 1)).map fun n : Nat => (n : Int)) = A ++ [(x : Int)] := by
      rw [List.take_add_one, HI.out.2.2, List.map_append, HA.out]; rfl
    rw [hl1] at hap hrow' hown'
    have hbel := HI.out.1.p.bel.trans (hap.2.2.2.2.mono (by omega))
    have hbz := boxed_set_other (Boxed.kept (Boxed.alloc HI.out.1.p.bz _) hgrow (fun e => by have := (World.ownsRow.lt hrow _ e.symm).1; omega)) ⟨w.heap.size, 0, none⟩ (.slice sx' (A.length + 1) sc') (by show w.heap.size + 1 ≠ w.heap.size; omega)
    have hbi := boxed_set_other (Boxed.kept (Boxed.alloc HI.out.1.p.bi _) hgrow (fun e => by have := (World.ownsRow.lt hrow _ e.symm).1; omega)) ⟨w.heap.size, 0, none⟩ (.slice sx' (A.length + 1) sc') (by show w.heap.size + 1 + 1 ≠ w.heap.size; omega)
    refine ⟨hap.2.2.2.1.from _, fun _ => ⟨hbel, hbz, hbi⟩, ⟨hbel, hbz, hbi⟩, _, hap.2.1, ?_⟩
    rw [hzk]
    exact IRow.other hrow' _ _ (hap.1.not_row (by decide) hown').symm
  case done =>
    intro D W hD hI hK
    obtain ⟨r, hbx, hrow⟩ := hI.bx
    have d0 := hbx.cell
    have HX := Lib.hid (And.intro hI (And.intro hrow (And.intro hK hD)))
    clear hI hrow hK hD hbx
    gi_wp2
    have hKD : W.heap[D]? = some (.deferred (some [])) := HX.out.2.2.1
    have hD : w.heap.size ≤ D := by have := HX.out.2.2.2; have := HSZ.out; omega
    have hr2 := HX.out.2.1
    rw [List.take_length] at hr2
    have hLI' := (HX.out.1).kept (n := w.heap.size) (Nat.le_refl _) (grownBy_putObj' W D (.deferred none)) (fun r e => by cases e; exact ⟨hD, _, hKD, rfl⟩)
    refine ⟨by simp, .inl ⟨_, _, rfl, run_takeDeferred hKD, ?_⟩⟩
    refine ⟨r, by simp [results, Try.f39, go_sem], r, rfl, ?_, hLI'.p.bel⟩
    exact row_kept_of (own_mono hr2 (by omega)) (grownBy_putObj' W D _) (fun r e => by cases e; exact ⟨_, hKD, rfl⟩)
section
variable {w0 w : World} {col : Nat → Nat} {c k : Nat} {b : ZB} {g : ZG} {q : List Int × List (Int × Int)} {m : ZM}
theorem zlist_in (h : ZS w0 w col c b g k q m) (z : Nat) (hz : z < g.zones) (L : List Nat) (hN : m.N z = (L.length : Nat)) (hC : ∀ j, j < L.length → m.C z j = (L.getD j 0 : Nat)) (hl : L.length ≤ g.slots) :
    Calls Try.prog 39 #[.pointer (some ⟨b.Z, 0, none⟩), .int .i64 (z : Int)] w fun e w' => ∃ r, e = .returned r ∧ IRow w' w.heap.size r (L.map fun n : Nat => (n : Int)) ∧ Below w.heap.size w w' :=
  zlist_of w _ (.inr ⟨_, rfl⟩) z L (Nat.le_trans hl h.sm.s2) fun w1 hp => of1_in 4 (by omega) h z hz _ _ L hN hC hl w1 hp
theorem zlist_out (h : ZS w0 w col c b g k q m) (z : Int) (hz : z < 0 ∨ (g.zones : Int) ≤ z) :
    Calls Try.prog 39 #[.pointer (some ⟨b.Z, 0, none⟩), .int .i64 z] w fun e w' => ∃ r, e = .returned r ∧ IRow w' w.heap.size r [] ∧ Below w.heap.size w w' :=
  zlist_of w _ (.inr ⟨_, rfl⟩) z [] (by simp) fun w1 hp => of1_none 4 (by omega) w _ z _ _ (fun W hb => zlen_out (h.below hb c) z hz) w1 hp
theorem zlist_nil (w : World) (z : Int) :
    Calls Try.prog 39 #[.pointer none, .int .i64 z] w fun e w' => ∃ r, e = .returned r ∧ IRow w' w.heap.size r [] ∧ Below w.heap.size w w' :=
  zlist_of w _ (.inl rfl) z [] (by simp) fun w1 hp => of1_none 4 (by omega) w _ z _ _ (fun W _ => (zlen_nil W z).mono fun e w' ⟨he, hw⟩ => ⟨he, hw ▸ Below.refl _ _⟩) w1 hp
end
end Go.Proofs.Ytfkkkndigkchcaa
