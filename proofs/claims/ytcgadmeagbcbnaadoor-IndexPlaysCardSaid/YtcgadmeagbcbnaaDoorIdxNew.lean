/- The walk of an index's New. No condition. -/
import Derived.Test.YtcgadmeagbcbnaaDoorIdxN
namespace Go.Proofs.YtcgadmeagbcbnaaDoor
open Go.RowKit
attribute [local irreducible] Calls

section
variable {w0 w W W' X' w3 : World} {col : Nat → Nat} {c X M T base hl n : Nat} {cv u v' : Value} {vs : List Value} {L : List (List (Int × Int))} {l : List (Int × Int)} {cs : List Int} {Wp : World}
theorem K1.below (h : K1 Wp W X M T base cv vs L) (hb : Below W.heap.size W W') : K1 Wp W' X M T base cv vs L :=
  ⟨h.p.below hb, h.x.below hb h.x.lt, h.m.block (hb.block M h.m.lt), h.xl, h.ml⟩
/-- A card more is taken over. -/
theorem K1.push (h : K1 Wp W X M T base cv vs L) (hp : PIn W W' u l) (hX : Below W'.heap.size W' X') (hr : w3.ownsRow Wp.heap.size 75 11 v' (vs.length + 1) (vs.flatMap cardC ++ cardC u)) (hg : X'.grownBy w3 cv.ownBlock) :
    (∀ j, w3.cell? ⟨X, j, none⟩ = ([.pointer (some ⟨T, 0, none⟩), cv, .int .i64 (base : Int), .map (some M), .int .i64 ((base + 256 : Nat) : Int)] : List Value)[j]?) ∧ (∀ j, w3.frozen? ⟨X, j, none⟩ = false) ∧
    ((∀ j, w3.cell? ⟨W.heap.size, j, none⟩ = (cardC u)[j]?) ∧ ∀ y j, (w3.setCell ⟨X, 1, none⟩ y).cell? ⟨W.heap.size, j, none⟩ = (cardC u)[j]?) ∧ Hid (K1 Wp (w3.setCell ⟨X, 1, none⟩ v') X M T base v' (vs ++ [u]) (L ++ [l])) := by
  have hb := fb_call hp.bel hX
  have hpu := h.p.push hp hX hr hg
  have hX1 := h.x.below hb h.x.lt
  have hne : ∀ {t : TypeId} {B : Nat}, kindOf X' B t → t ≠ 75 → some B ≠ cv.ownBlock := fun {t B} hk ht e => kind_ne hk (own_kind (h.p.row.below hb (fun q hq => (World.ownsRow.lt h.p.row q hq).2)) e.symm) ht rfl
  have hX3 : Arr w3 X 84 _ := hX1.kept hg (hne hX1.kind (by decide))
  have hmX := h.m.block (hb.block M h.m.lt)
  have hm3 : MapAt w3 M 0 (fun _ _ => none) := hmX.block (hg.block M hmX.lt (fun e => by
    obtain ⟨es, ck, g1⟩ := isMap_at hmX
    obtain ⟨cs', f', g2⟩ := own_kind (h.p.row.below hb (fun q hq => (World.ownsRow.lt h.p.row q hq).2)) e.symm
    rw [g1] at g2; cases g2))
  have hcb : Arr X' W.heap.size 75 (cardC u) := hp.bx.below hX hp.bx.lt
  have hrl := World.ownsRow.lt h.p.row
  have hcb3 : Arr w3 W.heap.size 75 (cardC u) := hcb.kept hg (fun e => by have := (hrl _ e.symm).2; omega)
  have hXW : X < W.heap.size := h.x.lt
  have hne3 : M ≠ X := fun e => by
    obtain ⟨es, ck, g1⟩ := isMap_at h.m
    have g2 : W.heap[X]? = _ := h.x
    rw [← e, g1] at g2; cases g2
  refine ⟨fun j => hX3.cell j, fun j => hX3.frozen j, ⟨fun j => hcb3.cell j, fun y j => (hcb3.set_other ⟨X, 1, none⟩ y (by show W.heap.size ≠ X; omega)).cell j⟩, Lib.hid ⟨hpu.set hX3.kind (by decide) (by decide) h.xl, ?_, hm3.block (heap_setCell_other _ _ _ _ hne3), h.xl, h.ml⟩⟩
  exact hX3.set 1 v'
theorem getD_zeros (cs : List Int) (n j : Nat) : (cs ++ List.replicate n (0 : Int)).getD (cs.length + j) 0 = 0 := by
  rw [List.getD_eq_getElem?_getD, List.getElem?_append_right (by omega), show cs.length + j - cs.length = j by omega, List.getElem?_replicate]
  split <;> rfl
theorem K2.fin (h : K2 w0 w W col c X M T base cv vs L cs hl 35) (hb : base = cs.length) (hc : cs.length ≤ 500000) (hlen : L.length ≤ 1000) (h5 : ∀ i, i < L.length → (L.getD i []).length ≤ 5) (hwf : ∀ i, i < L.length → ∀ q ∈ L.getD i [], wf2 q.1 q.2) (F : List Int → Prop) (hF0 : F (cs ++ List.replicate 400 0)) (hFs : ∀ cs' i v, (cs.length : Int) ≤ i → i < (cs.length : Int) + 400 → F cs' → F (setC cs' i v)) :
    ∃ q, ISN w0 w W col c ⟨X, M, T, base, cv, vs, rowsOf cv vs, L, F⟩ (hl + 40) q ⟨List.replicate 256 0, fun _ => [0, 0, 0, 0]⟩ := by
  obtain ⟨⟨O, hs, h1, h2, h3⟩, hx, hm, hcd, hmv, a, b, d, e⟩ := h
  refine ⟨_, ⟨O, (cs ++ List.replicate (260 + 4 * 35) 0, hs), ⟨h3, fun j hj => ?_, h1, fun j hj ho => ?_, ⟨hx, by rw [mapN_all] at hm; exact hm, hcd, fun j hj => rows_lt hcd hj⟩, ⟨?_, hF0⟩, ⟨by dsimp only; omega, by dsimp only; omega, h5, hwf, by subst hb; exact hFs⟩⟩, Hist.refl _, by dsimp only; omega⟩, hmv⟩
  · rcases hj with rfl | rfl | hj
    · exact recol_ge a
    · exact recol_ge b
    · exact recol_ge (d j hj)
  · obtain ⟨t, g1, g2⟩ := h1.kinds ho
    rcases hj with rfl | rfl | hj
    · rcases g2 with rfl | rfl | rfl <;> exact kind_ne g1 hx.kind (by decide) rfl
    · obtain ⟨es, ck, g3⟩ := isMap_at hm
      obtain ⟨cs', f', g4⟩ := g1
      rw [g3] at g4; cases g4
    · obtain ⟨t', g3, g4⟩ := rows_kind hcd hj
      rcases g2 with rfl | rfl | rfl <;> rcases g4 with rfl | rfl <;> exact kind_ne g1 g3 (by decide) rfl
  · subst hb
    refine ⟨by show cs.length + 400 ≤ _; rw [List.length_append, List.length_replicate]; omega, by show (List.replicate 256 (0 : Int)).length = 256; rw [List.length_replicate], fun i hi => ?_, fun s hs => ⟨wf_zero, fun j hj => ?_⟩⟩
    · rw [getD_zeros, List.getD_eq_getElem?_getD, List.getElem?_replicate, if_pos hi]; rfl
    · rw [show cs.length + 256 + 4 * s + j = cs.length + (256 + 4 * s + j) by omega, getD_zeros]
      have h0 : ([0, 0, 0, 0] : List Nat).getD j 0 = 0 := by match j, hj with | 0, _ => rfl | 1, _ => rfl | 2, _ => rfl | 3, _ => rfl
      show 0 = sg (([0, 0, 0, 0] : List Nat).getD j 0)
      rw [h0]
      decide
theorem inew_nil (w : World) (v : Value) : Calls Tryd.prog 10 #[.pointer none, v] w fun e w' => e = .returned (.pointer none) ∧ w = w' := by
  go_enter Tryd.func10, Tryd.ntmps10
  go_wp2
  go_ret
  exact ⟨rfl, rfl⟩
set_option maxRecDepth 100000 in
set_option maxHeartbeats 8000000 in
theorem inew_any {O : Nat → Prop} {hs : List (Int × Int)} {S : Nat → Prop} {v : Value} {abs : List (List (Int × Int))} (ht : TrS w0 w T O cs hs) (hoc : ∀ j, O j → col j = c) (hcs : cs.length ≤ 500000) (hhl : hs.length ≤ 1000000) (hC : CardsAt w S v vs abs) (hlen : abs.length ≤ 1000)
    (h5 : ∀ i, i < abs.length → (abs.getD i []).length ≤ 5) (hwf : ∀ i, i < abs.length → ∀ q ∈ abs.getD i [], wf2 q.1 q.2) (F : List Int → Prop) (hF0 : F (cs ++ List.replicate 400 0)) (hFs : ∀ cs' i v, (cs.length : Int) ≤ i → i < (cs.length : Int) + 400 → F cs' → F (setC cs' i v)) :
    Calls Tryd.prog 10 #[.pointer (some ⟨T, 0, none⟩), v] w fun e w' => ∃ b q, e = .returned (.pointer (some ⟨b.X, 0, none⟩)) ∧ b.T = T ∧ b.abs = abs ∧ b.base = cs.length ∧ b.F = F ∧ ISN w0 w w' col c b (hs.length + 40) q ⟨List.replicate 256 0, fun _ => [0, 0, 0, 0]⟩ := by
  obtain ⟨i1, hi1, hy0, hy1, hy2⟩ := info_parts infoCd
  obtain ⟨va, vc, hvv, hvc⟩ := hC.form
  obtain ⟨base, hbase⟩ : ∃ base, cs.length = base := ⟨_, rfl⟩
  have HA0 := Lib.hid (tr_alloc ht 256 (by unfold canA; omega) (by omega))
  have HT := Lib.hid (And.intro ht (And.intro hoc hbase))
  have HC := Lib.hid (And.intro hC (And.intro h5 hwf))
  have HFF := Lib.hid (And.intro hF0 hFs)
  have HB := Lib.hid (And.intro hcs hhl)
  rw [hbase] at HA0
  subst hvv
  have al0 : (0 : Int) ≤ abs.length := by omega
  have vcl : (abs.length : Int) ≤ vc := by omega
  clear ht hoc hC h5 hwf hcs hhl hF0 hFs
  have hmm := @run_makeMap Tryd.prog
  go_enter Tryd.func10, Tryd.ntmps10
  go_wp2_with fail
  refine HA0.out.mono ?_
  rintro e W1 ⟨rfl, hN⟩
  have HN1 := Lib.hid hN
  have HA1 : Hid (Calls Tryd.prog 34 #[.pointer (some ⟨T, 0, none⟩), .int .i64 4] W1 fun e w' => e = .returned (.int .i64 ((base + 256 : Nat) : Int)) ∧ ∃ O1, (∀ j, O1 j → recol w.heap.size col c j = c) ∧ TrS w0 W1 T O1 (cs ++ List.replicate 256 0) (hs ++ [((-1 : Int), 256)]) ∧ TrN w0 W1 w' T O1 (cs ++ List.replicate 260 0) (hs ++ [((-1 : Int), 256), ((-1 : Int), 4)])) := by
    obtain ⟨O1, g1, g2⟩ := hN.st
    have hl : (cs ++ List.replicate 256 (0 : Int)).length = base + 256 := by rw [List.length_append, List.length_replicate]; omega
    refine Lib.hid ((tr_alloc g1 4 (by unfold canA; rw [show (256 : Int).toNat = 256 from rfl, hl]; have := HB.out.1; omega) (by have := HB.out.2; simp; omega)).mono fun e w' ⟨he, hn⟩ => ⟨?_, O1, fun j hj => ?_, g1, ?_⟩)
    · rw [he, show (256 : Int).toNat = 256 from rfl, hl]
    · rcases g2 j hj with h | h
      · rw [recol_lt (HT.out.1.base h).2]; exact HT.out.2.1 j h
      · exact recol_ge h
    · rw [List.append_assoc, List.append_assoc] at hn
      exact hn
  clear hN HA0
  go_wp2_with fail
  refine HA1.out.mono ?_
  rintro e Wp ⟨rfl, hN2⟩
  have HN2 := Lib.hid hN2
  clear hN2 HA1
  have HCP : Hid (CardsAt Wp (rowsOf (.slice va abs.length vc) vs) (.slice va abs.length vc) vs abs) := by
    obtain ⟨O1, g0, g1, g2⟩ := HN2.out
    exact Lib.hid (rows_moved g1 (rows_moved HT.out.1 HC.out.1 HN1.out.mv) g2.mv)
  go_wp2
  obtain ⟨X, hX⟩ : ∃ X, Wp.heap.size + 1 = X := ⟨_, rfl⟩
  obtain ⟨M, hM⟩ : ∃ M, Wp.heap.size = M := ⟨_, rfl⟩
  have hK0 : Hid (K1 Wp ((Wp.alloc (.map #[] 0)).alloc (.cells #[.pointer (some ⟨T, 0, none⟩), .slice none 0 0, .int .i64 (base : Int), .map (some M), .int .i64 ((base : Int) + 256)] 84)) X M T base (.slice none 0 0) [] []) := by
    refine Lib.hid ⟨⟨fb_alloc (fb_alloc (Below.refl _ _) _) _, World.ownsRow_nil _ _ _ _, rfl, fun i hi => by cases hi⟩, ?_, ?_, by omega, by omega⟩
    · have := Arr.new (Wp.alloc (.map #[] 0)) 84 [.pointer (some ⟨T, 0, none⟩), .slice none 0 0, .int .i64 (base : Int), .map (some M), .int .i64 ((base : Int) + 256)]
      rw [World.size_alloc, hX] at this
      exact this
    · subst hM
      exact (MapAt.made Wp).block ((fb_alloc (Below.refl _ _) _).block _ (by simp))
  have HXM := Lib.hid (And.intro hX hM)
  clear hmm
  rw [hX, hM]
  generalize World.alloc _ _ = Ws at hK0 ⊢
  clear hX hM
  go_loopw [22] (fun x W => ∃ (k : Nat) (cv : Value) (cs1 : List Value), k ≤ abs.length ∧ x = .int .i64 k ∧ Hid (K1 Wp W X M T base cv cs1 (abs.take k))) (fun x _ => abs.length - (intOf x).toNat)
  case atStart => exact ⟨0, _, _, Nat.zero_le _, rfl, hK0⟩
  case round =>
    obtain ⟨k, cv, cs1, hk, rfl, hst⟩ := hrel
    clear hK0
    by_cases hlt : k < abs.length
    · have HK := hst
      obtain ⟨W, rfl⟩ : ∃ wo : World, wo = wr := ⟨_, rfl⟩
      have hcw := rows_block HCP.out (fun q hq => hst.out.p.bel.block q (rows_lt HCP.out hq))
      obtain ⟨g, gcap, hv, _, hcell⟩ := hcw.2.1.cell (i := k) (by rw [hcw.1]; exact hlt)
      obtain ⟨ua, uc, hu, huc⟩ := own_form' (hcw.2.2.2 k hlt).1
      obtain ⟨lk, hlk⟩ : ∃ lk, abs.getD k [] = lk := ⟨_, rfl⟩
      obtain ⟨un, hun⟩ : ∃ n, lk.length = n := ⟨_, rfl⟩
      rw [hlk, hun] at hu huc
      have hab := (hcw.2.2.2 k hlt).1
      rw [hu, hlk] at hab
      injection hv with hv1 hv2 hv3
      subst hv1 hv3
      clear hv2
      have d0 : W.cell? ⟨g, k * 11, none⟩ = some (.string "".toUTF8) := hcell 0 (by omega)
      have d1 : W.cell? ⟨g, k * 11 + 1, none⟩ = some (.int .i64 0) := hcell 1 (by omega)
      have d2 : W.cell? ⟨g, k * 11 + 2, none⟩ = some (.int .i64 0) := hcell 2 (by omega)
      have d3 : W.cell? ⟨g, k * 11 + 3, none⟩ = some (.int .i64 0) := hcell 3 (by omega)
      have d4 : W.cell? ⟨g, k * 11 + 4, none⟩ = some (.int .i64 0) := hcell 4 (by omega)
      have d5 : W.cell? ⟨g, k * 11 + 5, none⟩ = some (.int .i64 0) := hcell 5 (by omega)
      have d6 : W.cell? ⟨g, k * 11 + 6, none⟩ = some (.int .i64 0) := hcell 6 (by omega)
      have d7 : W.cell? ⟨g, k * 11 + 7, none⟩ = some (.int .i64 0) := hcell 7 (by omega)
      have d8 : W.cell? ⟨g, k * 11 + 8, none⟩ = some (.int .i64 0) := hcell 8 (by omega)
      have d9 : W.cell? ⟨g, k * 11 + 9, none⟩ = some (.int .i64 0) := hcell 9 (by omega)
      have d10 : W.cell? ⟨g, k * 11 + 10, none⟩ = some (.slice ua un uc) := by rw [hcell 10 (by omega), hu]; rfl
      have HAB := Lib.hid hab
      have HU := Lib.hid (And.intro hun (And.intro hlk (show un ≤ 5 by have := HC.out.2.1 k hlt; rw [hlk, hun] at this; exact this)))
      have k0 : (0 : Int) ≤ k := by omega
      have k1 : (k : Int) < abs.length := by omega
      clear hst hcw hcell hu hab hlk hun
      have hc1l : cs1.length = k := by have := HK.out.p.len; rw [List.length_take] at this; omega
      obtain ⟨ca, cc, hcv, _⟩ := own_form' HK.out.p.row
      rw [hc1l] at hcv
      subst hcv
      have hk1000 : k ≤ 1000 := by omega
      have HVL := Lib.hid (And.intro hk1000 (And.intro hc1l (show abs.take (k + 1) = abs.take k ++ [lk] by
        rw [List.take_succ_eq_append_getElem hlt, ← HU.out.2.1, List.getD_eq_getElem?_getD, List.getElem?_eq_getElem hlt]; rfl)))
      clear hk1000 hc1l
      go_upto_region 8 with (at_builtin; refine wpList_append_ab rfl _ _ rfl rfl rfl (show AbRow _ 0 (.slice ua un uc) lk from HAB.out.below (fb_alloc (Below.refl _ _) _) (fun q hq => (World.ownsRow.lt HAB.out q hq).2)) (by have := HU.out; omega) ?_; intro v1 w1 hr1 hg1; obtain ⟨xa, xc, hx, _⟩ := own_form' hr1; rw [HU.out.1] at hx; subst hx; have hbx := (Arr.new W 75 (cardC (.slice ua un uc))).kept hg1 (by simp); have e10 : w1.cell? ⟨W.heap.size, 10, none⟩ = some (.slice ua un uc) := hbx.cell 10; have f10 := hbx.frozen 10; have HR1 := Lib.hid (And.intro hr1 (And.intro hg1 hbx)); clear hr1 hg1 hbx)
      have hPI : PIn W (w1.setCell ⟨W.heap.size, 10, none⟩ (.slice xa un xc)) (.slice xa un xc) lk := by
        obtain ⟨hr1, hg1, hbx⟩ := HR1.out
        have hb1 : Below W.heap.size W w1 := (fb_alloc (Below.refl _ W) _).grown hg1 (by simp) (fun k e => by cases e)
        refine ⟨hb1.setCell (Nat.le_refl _) _, ?_, ?_⟩
        · exact hbx.set 10 _
        · exact ownsRow_setCell_other (ownL_mono hr1 (by simp)) (fun e => kind_ne (own_kind hr1 e) hbx.kind (by decide) rfl) _
      obtain ⟨w2, hw2⟩ : ∃ w2, w1.setCell ⟨W.heap.size, 10, none⟩ (.slice xa un xc) = w2 := ⟨_, rfl⟩
      rw [hw2] at hPI ⊢
      have HPI := Lib.hid hPI
      have hK2 := HK.out.below hPI.bel
      have HROW := Lib.hid (show ∀ W', Below w2.heap.size w2 W' → W'.ownsRow Wp.heap.size 75 11 (.slice ca k cc) k (cs1.flatMap cardC) from fun W' hb => by
        have := (hK2.below hb).p.row
        unfold CdRow at this
        rw [HVL.out.2.1] at this
        exact this)
      have HSC := Lib.hid (show ∀ W', Below w2.heap.size w2 W' → ∀ j, W'.cell? ⟨W.heap.size, j, none⟩ = (cardC (.slice xa un xc))[j]? from fun W' hb j => (hPI.bx.below hb hPI.bx.lt).cell j)
      have cx1 : w2.cell? ⟨X, 1, none⟩ = some (.slice ca k cc) := hK2.x.cell 1
      have cua : ∀ ob, (w2.alloc ob).cell? ⟨X, 1, none⟩ = some (.slice ca k cc) := fun ob => (hK2.below (fb_alloc (Below.refl _ _) ob)).x.cell 1
      have cud : ∀ ob, (w2.drew.alloc ob).cell? ⟨X, 1, none⟩ = some (.slice ca k cc) := fun ob => (hK2.below (fb_alloc (bel_drew (Below.refl _ _)) ob)).x.cell 1
      clear hw2 hPI hK2 d0 d1 d2 d3 d4 d5 d6 d7 d8 d9 d10 e10 f10
      refine wp_region_held (S := (fun wy => ∀ j, wy.cell? ⟨W.heap.size, j, none⟩ = (cardC (.slice xa un xc))[j]?)) (by kernel_rfl) ?_
      rw [show ({ w2 with drawn := w2.drawn + 1 } : World) = w2.drew from rfl]
      refine wpAnyH_take (i := 0) (v := .pointer (some ⟨X, 0, none⟩)) rfl (by kernel_rfl) (by kernel_rfl) (by kernel_rfl) (fun _ _ _ h => h) (Or.inl ⟨by rfl, ?_⟩) (HSC.out _ (bel_drew (Below.refl _ _))) ?_
      · intro wx hSw
        have s0_ := hSw 0
        have s1_ := hSw 1
        have s2_ := hSw 2
        have s3_ := hSw 3
        have s4_ := hSw 4
        have s5_ := hSw 5
        have s6_ := hSw 6
        have s7_ := hSw 7
        have s8_ := hSw 8
        have s9_ := hSw 9
        have s10_ := hSw 10
        have hem : "".toUTF8 = ByteArray.empty := rfl
        simp only [cardC, hem, List.getElem?_cons_zero, List.getElem?_cons_succ] at s0_ s1_ s2_ s3_ s4_ s5_ s6_ s7_ s8_ s9_ s10_
        clear hSw hem
        go_simp
      refine wpAnyH_take (i := 1) (v := .pointer (some ⟨X, 0, none⟩)) rfl (by kernel_rfl) (by kernel_rfl) (by kernel_rfl) (fun _ _ _ h => h) (Or.inl ⟨by rfl, ?_⟩) (HSC.out _ (bel_drew (Below.refl _ _))) ?_
      · intro wx hSw
        have s0_ := hSw 0
        have s1_ := hSw 1
        have s2_ := hSw 2
        have s3_ := hSw 3
        have s4_ := hSw 4
        have s5_ := hSw 5
        have s6_ := hSw 6
        have s7_ := hSw 7
        have s8_ := hSw 8
        have s9_ := hSw 9
        have s10_ := hSw 10
        have hem : "".toUTF8 = ByteArray.empty := rfl
        simp only [cardC, hem, List.getElem?_cons_zero, List.getElem?_cons_succ] at s0_ s1_ s2_ s3_ s4_ s5_ s6_ s7_ s8_ s9_ s10_
        clear hSw hem
        go_simp
      refine wpAnyH_take (i := 2) (v := .pointer (some ⟨X, 0, none⟩)) rfl (by kernel_rfl) (by kernel_rfl) (by kernel_rfl) (fun _ _ _ h => h) (Or.inl ⟨by rfl, ?_⟩) (HSC.out _ (bel_drew (Below.refl _ _))) ?_
      · intro wx hSw
        have s0_ := hSw 0
        have s1_ := hSw 1
        have s2_ := hSw 2
        have s3_ := hSw 3
        have s4_ := hSw 4
        have s5_ := hSw 5
        have s6_ := hSw 6
        have s7_ := hSw 7
        have s8_ := hSw 8
        have s9_ := hSw 9
        have s10_ := hSw 10
        have hem : "".toUTF8 = ByteArray.empty := rfl
        simp only [cardC, hem, List.getElem?_cons_zero, List.getElem?_cons_succ] at s0_ s1_ s2_ s3_ s4_ s5_ s6_ s7_ s8_ s9_ s10_
        clear hSw hem
        go_simp
      refine wpAnyH_take (i := 3) (v := .pointer (some ⟨X, 1, none⟩)) rfl (by kernel_rfl) (by kernel_rfl) (by kernel_rfl) (fun _ _ _ h => h) (Or.inl ⟨by rfl, ?_⟩) (HSC.out _ (bel_drew (Below.refl _ _))) ?_
      · intro wx hSw
        have s0_ := hSw 0
        have s1_ := hSw 1
        have s2_ := hSw 2
        have s3_ := hSw 3
        have s4_ := hSw 4
        have s5_ := hSw 5
        have s6_ := hSw 6
        have s7_ := hSw 7
        have s8_ := hSw 8
        have s9_ := hSw 9
        have s10_ := hSw 10
        have hem : "".toUTF8 = ByteArray.empty := rfl
        simp only [cardC, hem, List.getElem?_cons_zero, List.getElem?_cons_succ] at s0_ s1_ s2_ s3_ s4_ s5_ s6_ s7_ s8_ s9_ s10_
        clear hSw hem
        go_simp
      refine wpAnyH_take (i := 5) (v := .agg #[.string ByteArray.empty, .int .i64 0, .int .i64 0, .int .i64 0, .int .i64 0, .int .i64 0, .int .i64 0, .int .i64 0, .int .i64 0, .int .i64 0, .slice xa un xc]) rfl (by kernel_rfl) (by kernel_rfl) (by kernel_rfl) (fun _ _ _ h => h) (Or.inl ⟨by rfl, ?_⟩) (HSC.out _ (bel_drew (Below.refl _ _))) ?_
      · intro wx hSw
        have s0_ := hSw 0
        have s1_ := hSw 1
        have s2_ := hSw 2
        have s3_ := hSw 3
        have s4_ := hSw 4
        have s5_ := hSw 5
        have s6_ := hSw 6
        have s7_ := hSw 7
        have s8_ := hSw 8
        have s9_ := hSw 9
        have s10_ := hSw 10
        have hem : "".toUTF8 = ByteArray.empty := rfl
        simp only [cardC, hem, List.getElem?_cons_zero, List.getElem?_cons_succ] at s0_ s1_ s2_ s3_ s4_ s5_ s6_ s7_ s8_ s9_ s10_
        clear hSw hem
        go_simp
      refine wpAnyH_all (rs := [4, 6]) (by kernel_rfl) (by simp) ?_
      try simp only [Act.put]
      try simp only [List.setIfInBounds_toArray]
      try simp only [List.set_cons_zero, List.set_cons_succ]
      simp only [List.mem_cons, List.not_mem_nil, or_false, forall_eq_or_imp, forall_eq]
      refine ⟨?_, ?_⟩
      · skip
        refine heldOp rfl (by rfl) (fun K' hK' => ?_)
        go_simp
        refine hK' _ _ ⟨HSC.out _ (bel_drew (Below.refl _ _)), ?_⟩
        clear hK' K'
        refine wpAnyH_all (rs := [6]) (by kernel_rfl) (by simp) ?_
        try simp only [Act.put]
        try simp only [List.setIfInBounds_toArray]
        try simp only [List.set_cons_zero, List.set_cons_succ]
        simp only [List.mem_cons, List.not_mem_nil, or_false, forall_eq]
        refine heldOp rfl (by rfl) (fun K' hK' => ?_)
        go_simp
        refine hK' _ _ ⟨HSC.out _ (by first | exact fb_alloc (bel_drew (Below.refl _ _)) _ | exact bel_drew (fb_alloc (Below.refl _ _) _)), ?_⟩
        clear hK' K'
        refine wpAnyH_all (rs := [7]) (by kernel_rfl) (by simp) ?_
        try simp only [Act.put]
        try simp only [List.setIfInBounds_toArray]
        try simp only [List.set_cons_zero, List.set_cons_succ]
        simp only [List.mem_cons, List.not_mem_nil, or_false, forall_eq]
        refine heldAppend rfl rfl (.tmp 34) (.tmp 36) 26 rfl Wp.heap.size 75 i1 cdZero 11 112 Tryd.underlying26 hi1 hy0 hy1 hy2 rfl (by decide) (.slice ca k cc) k (cs1.flatMap cardC) (by simp [Act.eval]) (HROW.out _ (by first | exact fb_alloc (bel_drew (Below.refl _ _)) _ | exact bel_drew (fb_alloc (Below.refl _ _) _))) ⟨w2.heap.size, 0, none⟩ 1 1 (cardC (.slice xa un xc)) (by simp [Act.eval]) rfl (news_arr (t := 75) (vs := cardC (.slice xa un xc)) (Arr.new _ _ _)) (cd_one rfl) (by have := HVL.out.1; unfold maxLen; omega) (by have := HVL.out.1; omega) (by have := HK.out.p.bel.size; have := HPI.out.bel.size; simp; omega) ?_
        intro v3 w3 hown3 hgrow3 hfr3
        obtain ⟨g3, cap3, rfl⟩ := own_form hown3 (by omega)
        have G := K1.push HK.out HPI.out (by first | exact fb_alloc (bel_drew (Below.refl _ _)) _ | exact bel_drew (fb_alloc (Below.refl _ _) _)) (by rw [HVL.out.2.1]; exact hown3) hgrow3
        have g1 : w3.cell? ⟨X, 1, none⟩ = some (.slice ca k cc) := G.1 1
        have gf := G.2.1 1
        have HG := Lib.hid G.2.2.2
        have HSG := Lib.hid G.2.2.1
        refine ⟨fun j => HSG.out.1 j, ?_⟩
        clear hown3 hgrow3 hfr3 G
        refine wpAnyH_all (rs := [8]) (by kernel_rfl) (by simp) ?_
        try simp only [Act.put]
        try simp only [List.setIfInBounds_toArray]
        try simp only [List.set_cons_zero, List.set_cons_succ]
        simp only [List.mem_cons, List.not_mem_nil, or_false, forall_eq]
        refine heldOp rfl (by rfl) (fun K' hK' => ?_)
        go_simp
        refine hK' _ _ ⟨fun j => HSG.out.1 j, ?_⟩
        clear hK' K'
        refine wpAnyH_all (rs := [9]) (by kernel_rfl) (by simp) ?_
        try simp only [Act.put]
        try simp only [List.setIfInBounds_toArray]
        try simp only [List.set_cons_zero, List.set_cons_succ]
        simp only [List.mem_cons, List.not_mem_nil, or_false, forall_eq]
        refine heldOp rfl (by rfl) (fun K' hK' => ?_)
        go_simp
        refine hK' _ _ ⟨fun j => HSG.out.1 j, ?_⟩
        clear hK' K'
        refine wpAnyH_all (rs := [10]) (by kernel_rfl) (by simp) ?_
        try simp only [Act.put]
        try simp only [List.setIfInBounds_toArray]
        try simp only [List.set_cons_zero, List.set_cons_succ]
        simp only [List.mem_cons, List.not_mem_nil, or_false, forall_eq]
        refine heldOp rfl (by rfl) (fun K' hK' => ?_)
        go_simp
        refine hK' _ _ ⟨fun j => HSG.out.2 _ j, ?_⟩
        clear hK' K'
        refine wpAnyH_done (by kernel_rfl) ?_ _
        go_wp2
        go_roundw
        case rel => exact ⟨k + 1, _, _, by omega, by go_num, by rw [HVL.out.2.2]; exact HG⟩
        case measure => simp [intOf]; omega
      · skip
        refine heldOp rfl (by rfl) (fun K' hK' => ?_)
        go_simp
        refine hK' _ _ ⟨HSC.out _ (by first | exact fb_alloc (bel_drew (Below.refl _ _)) _ | exact bel_drew (fb_alloc (Below.refl _ _) _)), ?_⟩
        clear hK' K'
        refine wpAnyH_all (rs := [4]) (by kernel_rfl) (by simp) ?_
        try simp only [Act.put]
        try simp only [List.setIfInBounds_toArray]
        try simp only [List.set_cons_zero, List.set_cons_succ]
        simp only [List.mem_cons, List.not_mem_nil, or_false, forall_eq]
        refine heldOp rfl (by rfl) (fun K' hK' => ?_)
        go_simp
        refine hK' _ _ ⟨HSC.out _ (by first | exact fb_alloc (bel_drew (Below.refl _ _)) _ | exact bel_drew (fb_alloc (Below.refl _ _) _)), ?_⟩
        clear hK' K'
        refine wpAnyH_all (rs := [7]) (by kernel_rfl) (by simp) ?_
        try simp only [Act.put]
        try simp only [List.setIfInBounds_toArray]
        try simp only [List.set_cons_zero, List.set_cons_succ]
        simp only [List.mem_cons, List.not_mem_nil, or_false, forall_eq]
        refine heldAppend rfl rfl (.tmp 34) (.tmp 36) 26 rfl Wp.heap.size 75 i1 cdZero 11 112 Tryd.underlying26 hi1 hy0 hy1 hy2 rfl (by decide) (.slice ca k cc) k (cs1.flatMap cardC) (by simp [Act.eval]) (HROW.out _ (by first | exact fb_alloc (bel_drew (Below.refl _ _)) _ | exact bel_drew (fb_alloc (Below.refl _ _) _))) ⟨w2.heap.size, 0, none⟩ 1 1 (cardC (.slice xa un xc)) (by simp [Act.eval]) rfl (news_arr (t := 75) (vs := cardC (.slice xa un xc)) (Arr.new _ _ _)) (cd_one rfl) (by have := HVL.out.1; unfold maxLen; omega) (by have := HVL.out.1; omega) (by have := HK.out.p.bel.size; have := HPI.out.bel.size; simp; omega) ?_
        intro v3 w3 hown3 hgrow3 hfr3
        obtain ⟨g3, cap3, rfl⟩ := own_form hown3 (by omega)
        have G := K1.push HK.out HPI.out (by first | exact fb_alloc (bel_drew (Below.refl _ _)) _ | exact bel_drew (fb_alloc (Below.refl _ _) _)) (by rw [HVL.out.2.1]; exact hown3) hgrow3
        have g1 : w3.cell? ⟨X, 1, none⟩ = some (.slice ca k cc) := G.1 1
        have gf := G.2.1 1
        have HG := Lib.hid G.2.2.2
        have HSG := Lib.hid G.2.2.1
        refine ⟨fun j => HSG.out.1 j, ?_⟩
        clear hown3 hgrow3 hfr3 G
        refine wpAnyH_all (rs := [8]) (by kernel_rfl) (by simp) ?_
        try simp only [Act.put]
        try simp only [List.setIfInBounds_toArray]
        try simp only [List.set_cons_zero, List.set_cons_succ]
        simp only [List.mem_cons, List.not_mem_nil, or_false, forall_eq]
        refine heldOp rfl (by rfl) (fun K' hK' => ?_)
        go_simp
        refine hK' _ _ ⟨fun j => HSG.out.1 j, ?_⟩
        clear hK' K'
        refine wpAnyH_all (rs := [9]) (by kernel_rfl) (by simp) ?_
        try simp only [Act.put]
        try simp only [List.setIfInBounds_toArray]
        try simp only [List.set_cons_zero, List.set_cons_succ]
        simp only [List.mem_cons, List.not_mem_nil, or_false, forall_eq]
        refine heldOp rfl (by rfl) (fun K' hK' => ?_)
        go_simp
        refine hK' _ _ ⟨fun j => HSG.out.1 j, ?_⟩
        clear hK' K'
        refine wpAnyH_all (rs := [10]) (by kernel_rfl) (by simp) ?_
        try simp only [Act.put]
        try simp only [List.setIfInBounds_toArray]
        try simp only [List.set_cons_zero, List.set_cons_succ]
        simp only [List.mem_cons, List.not_mem_nil, or_false, forall_eq]
        refine heldOp rfl (by rfl) (fun K' hK' => ?_)
        go_simp
        refine hK' _ _ ⟨fun j => HSG.out.2 _ j, ?_⟩
        clear hK' K'
        refine wpAnyH_done (by kernel_rfl) ?_ _
        go_wp2
        go_roundw
        case rel => exact ⟨k + 1, _, _, by omega, by go_num, by rw [HVL.out.2.2]; exact HG⟩
        case measure => simp [intOf]; omega
    · obtain rfl : k = abs.length := by omega
      obtain ⟨W, rfl⟩ : ∃ wo : World, wo = wr := ⟨_, rfl⟩
      rw [List.take_length] at hst
      have hK2 : Hid (K2 w0 w W col c X M T base cv cs1 abs cs hs.length 0) := by
        have hk := hst.out
        obtain ⟨O1, g0, g1, g2⟩ := HN2.out
        obtain ⟨O2, g3, g4⟩ := g2.st
        have hb := hk.p.bel
        have hw1 := HN1.out.mv.size
        have hwp := g2.mv.size
        have hoc := HT.out.2.1
        refine Lib.hid ⟨⟨O2, _, g3.below hb, by simp, fun j hj => ?_⟩, hk.x, by rw [mapN_zero]; exact hk.m, hk.p.cards, ?_, by have := hk.xl; omega, by have := hk.ml; omega, fun j hj => ?_, HT.out.1.bel.size⟩
        · rcases g4 j hj with h | h
          · exact g0 j h
          · exact recol_ge (by omega)
        · have m1 : Moved w W1 (fun j => col j = c) := ⟨HN1.out.mv.os, HN1.out.mv.tape, HN1.out.mv.output, HN1.out.mv.size, fun j hj hne => HN1.out.mv.block j hj fun ho => hne (hoc j ho)⟩
          have m2 := m1.trans g2.mv (fun j hj => by
            by_cases hl : j < w.heap.size
            · exact .inl (by have := g0 j hj; rwa [recol_lt hl] at this)
            · exact .inr (by omega))
          exact m2.trans (Moved.of_below hb (fun _ => False)) (fun _ hf => hf.elim)
        · rcases hj with hj | ⟨i, hi, hj⟩
          · have := (World.ownsRow.lt hk.p.row j hj).1; omega
          · have := (World.ownsRow.lt (hk.p.each i (by rw [← hk.p.len]; exact hi)) j hj).1; omega
      clear hst
      go_wp2
      go_loopw [8] (fun x W => ∃ kd : Nat, 1 ≤ kd ∧ kd ≤ 6 ∧ x = .int .i64 kd ∧ Hid (K2 w0 w W col c X M T base cv cs1 abs cs hs.length ((kd - 1) * 7))) (fun x _ => 6 - (intOf x).toNat)
      case atStart => exact ⟨1, by omega, by omega, rfl, hK2⟩
      case round =>
        obtain ⟨kd, hkd1, hkd6, rfl, hst⟩ := hrel
        clear hK2
        obtain ⟨Wk, rfl⟩ : ∃ wo : World, wo = wr := ⟨_, rfl⟩
        have kk0 : (1 : Int) ≤ kd := by omega
        by_cases hk5 : kd ≤ 5
        · have kk1 : (kd : Int) ≤ 5 := by omega
          go_wp2
          go_loopw [45] (fun x W => ∃ ev : Nat, ev ≤ 7 ∧ x = .int .i64 ev ∧ Hid (K2 w0 w W col c X M T base cv cs1 abs cs hs.length ((kd - 1) * 7 + ev))) (fun x _ => 7 - (intOf x).toNat)
          case atStart => exact ⟨0, by omega, rfl, hst⟩
          case round =>
            obtain ⟨ev, hev, rfl, hs2⟩ := hrel
            clear hst
            by_cases he : ev < 7
            · have ee0 : (0 : Int) ≤ ev := by omega
              have ee1 : (ev : Int) < 7 := by omega
              obtain ⟨n, hn⟩ : ∃ n, (kd - 1) * 7 + ev = n := ⟨_, rfl⟩
              rw [hn] at hs2
              have hkx : kx kd ev = n + 1 := by unfold kx; rw [if_pos ⟨by omega, by omega⟩]; omega
              have hn35 : n ≤ 34 := by omega
              have hwf2 : wf2 kd ev := by
                refine ⟨?_, ?_⟩ <;> (simp [Lit.wf, IntKind.min, IntKind.max, IntKind.signed, IntKind.bits]; omega)
              obtain ⟨ad, had⟩ : ∃ ad, base + 256 + 4 * (n + 1) = ad := ⟨_, rfl⟩
              have HCA := Lib.hid (K2.alloc (hs2.out.below (bel_drew (Below.refl _ _))) HT.out.2.2.symm HB.out.1 (by omega) HB.out.2)
              rw [had] at HCA
              have hadw : (Lit.int .i64 (ad : Int)).wf = true := by
                have := HB.out.1; have := HT.out.2.2
                simp [Lit.wf, IntKind.min, IntKind.max, IntKind.signed, IntKind.bits]; omega
              have HMF := Lib.hid (mapN_put base n kd ev hkx)
              rw [had] at HMF
              have HWF := Lib.hid (And.intro hwf2 hadw)
              have cx3 : wr.cell? ⟨X, 3, none⟩ = some (.map (some M)) := hs2.out.x.cell 3
              have HKS := hs2
              have HNN := Lib.hid (And.intro hn hn35)
              clear hs2 hn hkx hwf2 had hadw hn35
              go_upto_region 16 with fail
              go_region_held3 (fun wy => wy.cell? ⟨X, 3, none⟩ = some (.map (some M))) (first | exact cx3 | exact HS1.out | exact HKN.out.x.cell 3)
                ((go_at_call 34; refine HCA.out.mono ?_; rintro e W1 ⟨rfl, hx1, hm1, hn1⟩; obtain ⟨W2, hrun, hm2, hg2⟩ := hm1.store (by have := HNN.out.2; unfold maxLen; omega) HWF.out.1 HWF.out.2; rw [HMF.out] at hm2; have HKN := Lib.hid (hn1 W2 hg2 hm2); have HS1 := Lib.hid ((hx1 3).trans (show wr.drew.cell? ⟨X, 3, none⟩ = _ from cx3)); clear hx1 hm1 hn1 hm2 hg2))
              all_goals
                go_wp2
                go_roundw
                case rel => exact ⟨ev + 1, by omega, by go_num, by rw [show (kd - 1) * 7 + (ev + 1) = n + 1 by have := HNN.out.1; omega]; exact HKN⟩
                case measure => simp [intOf]; omega
            · obtain rfl : ev = 7 := by omega
              go_wp2
              go_roundw
              case rel => exact ⟨kd + 1, by omega, by omega, by go_num, by rw [show (kd + 1 - 1) * 7 = (kd - 1) * 7 + 7 by omega]; exact hs2⟩
              case measure => simp [intOf]; omega
        · obtain rfl : kd = 6 := by omega
          have HFin := Lib.hid (hst.out.fin HT.out.2.2.symm HB.out.1 hlen HC.out.2.1 HC.out.2.2 F HFF.out.1 HFF.out.2)
          clear hst
          go_wp2
          go_ret
          obtain ⟨q, hq⟩ := HFin.out
          exact ⟨⟨X, M, T, base, cv, cs1, rowsOf cv cs1, abs, F⟩, q, rfl, rfl, rfl, HT.out.2.2.symm, rfl, hq⟩
end
end Go.Proofs.YtcgadmeagbcbnaaDoor
