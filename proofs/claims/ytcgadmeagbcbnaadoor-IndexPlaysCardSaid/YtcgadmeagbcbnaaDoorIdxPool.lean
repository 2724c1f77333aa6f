/- The law's pool: cards that have these abilities. No condition. -/
import Derived.Test.YtcgadmeagbcbnaaDoorIdxR
namespace Go.Proofs.YtcgadmeagbcbnaaDoor
open Go.RowKit
attribute [local irreducible] Calls

theorem heldAppend {P : Program} {ops : Array Oper} {i : Nat} {o : Oper} {a : Act} {w : World} {K : Act → World → Prop} {Q : Exit → Act → World → Prop} (ho : ops[i]? = some o)
    (hg : o.guard = none) (s x : Operand) (t : TypeId) (hop : o.op = Op.call { callee := Callee.builtin Builtin.append, args := #[s, x], argTypes := #[t, t] })
    (base : Nat) (e : TypeId) (ti : TypeInfo) (z : Value) (size bytes : Nat) (h1 : P.underlying t = some (.slice e)) (h2 : P.info? e = some ti) (h3 : ti.zero = some z) (h4 : ti.size = size) (h5 : ti.bytes = bytes) (h6 : z.cells.size = size) (h7 : 0 < size)
    (v : Value) (n : Nat) (xs : List Value) (hs : a.eval s = v) (hown : w.ownsRow base e size v n xs)
    (ad : Addr) (m c : Nat) (news : List Value) (hx : a.eval x = .slice (some ad) m c) (hn : news.length = m * size) (hc : ∀ j u, news[j]? = some u → w.cell? (ad.add j) = some u) (h1c : ∀ u ∈ news, u.oneCell' = true)
    (b1 : n + m ≤ maxLen) (b2 : (n + m) * bytes ≤ 140737488355328) (hb : base ≤ w.heap.size)
    (hK : ∀ v' w', w'.ownsRow base e size v' (n + m) (xs ++ news) → w.grownBy w' v.ownBlock → (∀ k, v'.ownBlock = some k → v.ownBlock = some k ∨ w.heap.size ≤ k) → K (a.put o.dst v') w') :
    wpOp P ops Q i K a w := by
  have hw : Region.wanted o (yielded ops a.tmps) = true := by simp [Region.wanted, hg]
  have := step_append_own (P := P) (ops := ops) (K := K) (Q := Q) (E := True) hg s x t hop base e ti z size bytes h1 h2 h3 h4 h5 h6 h7 v n xs hs hown ad m c news hx hn hc h1c b1 b2 hb hK
  rw [if_pos hw] at this
  exact heldOp ho hw (fun K' hK' => Oper.wp_mono hK' this)
/-- Rows of kinds and events. -/
def Hss (w : World) (n : Nat) (v : Value) (L : List (List (Int × Int))) : Prop :=
  ∃ a cap, v = .slice a L.length cap ∧ (L.length = 0 ∨ ∃ B o, a = some ⟨B, o, none⟩ ∧ B < n ∧ ∀ i, i < L.length → ∃ ai ci, w.cell? ⟨B, o + i, none⟩ = some (.slice ai (L.getD i []).length ci) ∧
    ((L.getD i []).length = 0 ∨ ∃ b' o', ai = some ⟨b', o', none⟩ ∧ b' < n ∧ ∀ j, j < (L.getD i []).length → w.cell? ⟨b', o' + j * 2, none⟩ = some (.int .i64 ((L.getD i []).getD j (0, 0)).1) ∧ w.cell? ⟨b', o' + j * 2 + 1, none⟩ = some (.int .i64 ((L.getD i []).getD j (0, 0)).2)))
/-- The cards that are made so far. -/
structure POut (w W : World) (v : Value) (vs : List Value) (L : List (List (Int × Int))) : Prop where
  bel : Below w.heap.size w W
  row : CdRow W w.heap.size v vs
  len : vs.length = L.length
  each : ∀ i, i < L.length → AbRow W w.heap.size (vs.getD i undef) (L.getD i [])
theorem POut.below {w W W' : World} {v : Value} {vs : List Value} {L : List (List (Int × Int))} (h : POut w W v vs L) (hb : Below W.heap.size W W') : POut w W' v vs L :=
  ⟨fb_call h.bel hb, h.row.below hb (fun k hk => (World.ownsRow.lt h.row k hk).2), h.len, fun i hi => (h.each i hi).below hb (fun k hk => (World.ownsRow.lt (h.each i hi) k hk).2)⟩
/-- A card under way: the box Bc, made in W0. -/
structure PIn (W0 W : World) (u : Value) (l : List (Int × Int)) : Prop where
  bel : Below W0.heap.size W0 W
  bx : Arr W W0.heap.size 75 (cardC u)
  row : AbRow W W0.heap.size u l
theorem PIn.grow {W0 W X w1 : World} {u v : Value} {l l' : List (Int × Int)} (h : PIn W0 W u l) (hX : Below W.heap.size W X) (hg : X.grownBy w1 u.ownBlock) (hr : AbRow w1 W0.heap.size v l') :
    (∀ j, w1.cell? ⟨W0.heap.size, j, none⟩ = (cardC u)[j]?) ∧ (∀ j, w1.frozen? ⟨W0.heap.size, j, none⟩ = false) ∧ Below W0.heap.size W0 w1 ∧ PIn W0 (w1.setCell ⟨W0.heap.size, 10, none⟩ v) v l' := by
  have hbX : Arr X W0.heap.size 75 (cardC u) := h.bx.below hX h.bx.lt
  have hne : u.ownBlock ≠ some W0.heap.size := fun e => kind_ne (own_kind h.row e) h.bx.kind (by decide) rfl
  have hb1 : Arr w1 W0.heap.size 75 (cardC u) := hbX.kept hg (fun e => hne e.symm)
  have hbel : Below W0.heap.size W0 w1 := (fb_call h.bel hX).grown hg (Nat.le_trans h.bel.size hX.size) (fun k e => (World.ownsRow.lt h.row k e).1)
  refine ⟨fun j => hb1.cell j, fun j => hb1.frozen j, hbel, hbel.setCell (Nat.le_refl _) _, ?_, ?_⟩
  · have := hb1.set 10 v
    exact this
  · exact ownsRow_setCell_other hr (fun e => kind_ne (own_kind hr e) hb1.kind (by decide) rfl) _
theorem ownL_mono {w : World} {base b2 : Nat} {e : TypeId} {size n : Nat} {v : Value} {xs : List Value} (h : w.ownsRow base e size v n xs) (hb : b2 ≤ base) : w.ownsRow b2 e size v n xs := by
  refine ⟨h.1, ?_⟩
  rcases h.2 with h1 | ⟨g, cap, cur, hv, hg, r⟩
  · exact .inl h1
  · exact .inr ⟨g, cap, cur, hv, by omega, r⟩
theorem POut.push {w wa wr X w1 : World} {v v' u : Value} {vs : List Value} {L : List (List (Int × Int))} {l : List (Int × Int)} (h : POut w wa v vs L) (hp : PIn wa wr u l) (hX : Below wr.heap.size wr X)
    (hr : w1.ownsRow w.heap.size 75 11 v' (vs.length + 1) (vs.flatMap cardC ++ cardC u)) (hg : X.grownBy w1 v.ownBlock) : POut w w1 v' (vs ++ [u]) (L ++ [l]) := by
  have hb1 := fb_call hp.bel hX
  have hbx := h.below hb1
  have hk : ∀ {u : Value} {l : List (Int × Int)} {b : Nat}, AbRow X b u l → AbRow w1 b u l := fun {u l b} hu => hu.kept hg fun k e e' => kind_ne (own_kind hbx.row e') (own_kind hu e) (by decide) rfl
  have hu : AbRow w1 w.heap.size u l := hk (ownL_mono (hp.row.below hX (fun k e => (World.ownsRow.lt hp.row k e).2)) h.bel.size)
  refine ⟨hbx.bel.grown hg hbx.bel.size (fun k e => (World.ownsRow.lt hbx.row k e).1), CdRow.snoc hr, by rw [List.length_append, List.length_append, h.len]; rfl, fun i hi => ?_⟩
  rw [List.length_append] at hi
  simp only [List.getD_eq_getElem?_getD]
  by_cases hil : i < L.length
  · rw [List.getElem?_append_left (by rw [h.len]; exact hil), List.getElem?_append_left hil]
    have := hk (hbx.each i hil)
    simpa only [List.getD_eq_getElem?_getD] using this
  · have e1 : i = L.length := by have hi' : i < L.length + 1 := hi; omega
    subst e1
    rw [List.getElem?_append_right (by rw [h.len]; exact Nat.le_refl _), List.getElem?_append_right (Nat.le_refl _), h.len]
    simpa using hu
theorem getD_takeL {α : Type} (l : List α) {k j : Nat} (d : α) (h : j < k) : (l.take k).getD j d = l.getD j d := by
  rw [List.getD_eq_getElem?_getD, List.getElem?_take_of_lt h, List.getD_eq_getElem?_getD]
set_option maxRecDepth 100000 in
set_option maxHeartbeats 4000000 in
theorem pool_any (w : World) (v : Value) (L : List (List (Int × Int))) (hL : Hss w w.heap.size v L) (hlm : L.length ≤ 9223372036854775807) :
    Calls Tryd.prog 9 #[v] w fun e w' => ∃ u vs, e = .returned u ∧ POut w w' u vs ((L.take 45).map (fun l => l.take 5)) := by
  obtain ⟨i0, hi0, hz0, hz1, hz2⟩ := info_parts infoAb
  obtain ⟨i1, hi1, hy0, hy1, hy2⟩ := info_parts infoCd
  obtain ⟨a, cap, rfl, hcells⟩ := hL
  have HL := Lib.hid hcells
  clear hcells
  go_enter Tryd.func9, Tryd.ntmps9
  go_wp2
  go_loopw [3, 4] (fun x y wr => ∃ (i : Nat) (vs : List Value), i ≤ L.length ∧ i ≤ 45 ∧ y = .int .i64 i ∧ Hid (POut w wr x vs ((L.take i).map (fun l => l.take 5)))) (fun _ y _ => 45 - (intOf y).toNat)
  case atStart => exact ⟨0, [], Nat.zero_le _, by omega, rfl, Lib.hid ⟨Below.refl _ _, World.ownsRow_nil _ _ _ _, rfl, fun i hi => by simp at hi⟩⟩
  case round =>
    obtain ⟨i, vs, hiL, hi45, rfl, hst⟩ := hrel
    obtain ⟨wa, rfl⟩ : ∃ wo : World, wo = wr := ⟨_, rfl⟩
    by_cases hlt : i < L.length
    · by_cases h45 : i < 45
      · obtain ⟨B, o, rfl, hB, hc⟩ := HL.out.resolve_left (by omega)
        obtain ⟨ai, ci, hci, hin⟩ := hc i hlt
        obtain ⟨li, hli⟩ : ∃ li, L.getD i [] = li := ⟨_, rfl⟩
        rw [hli] at hci hin
        have i00 : (0 : Int) ≤ i := by omega
        have i01 : (i : Int) < L.length := by omega
        have i02 : (i : Int) < 45 := by omega
        have HI := Lib.hid hin
        have HS := hst
        have P0 := Lib.hid (show PIn wa (wa.alloc (.cells #[.string "".toUTF8, .int .i64 0, .int .i64 0, .int .i64 0, .int .i64 0, .int .i64 0, .int .i64 0, .int .i64 0, .int .i64 0, .int .i64 0, .slice none 0 0] 75)) (.slice none 0 0) (li.take 0) from
          ⟨fb_alloc (Below.refl _ _) _, Arr.new wa 75 (cardC (.slice none 0 0)), World.ownsRow_nil _ _ _ _⟩)
        have hwc : wa.cell? ⟨B, o + i, none⟩ = some (.slice ai li.length ci) := (hst.out.bel.cell (p := ⟨B, o + i, none⟩) hB).trans hci
        have HW := Lib.hid hwc
        clear hst hin hc hci hwc
        go_wp2
        go_loopw [6] (fun x W => ∃ (k : Nat) (u : Value), k ≤ li.length ∧ k ≤ 5 ∧ x = .int .i64 k ∧ Hid (PIn wa W u (li.take k))) (fun x _ => 5 - (intOf x).toNat)
        case atStart => exact ⟨0, _, Nat.zero_le _, by omega, rfl, P0⟩
        case round =>
          obtain ⟨k, u, hkl, hk5, rfl, hp⟩ := hrel
          clear P0
          have cl : wr.cell? ⟨B, o + i, none⟩ = some (.slice ai li.length ci) := (hp.out.bel.cell (p := ⟨B, o + i, none⟩) (World.block_lt_of_cell? _ _ HW.out)).trans HW.out
          by_cases hkt : k < li.length
          · by_cases hk : k < 5
            · obtain ⟨b', o', rfl, hb', hcc⟩ := HI.out.resolve_left (by omega)
              obtain ⟨hc0, hc1⟩ := hcc k hkt
              obtain ⟨⟨y0, y1⟩, hy⟩ : ∃ y, li.getD k (0, 0) = y := ⟨_, rfl⟩
              rw [hy] at hc0 hc1
              have hbw := fb_call HS.out.bel hp.out.bel
              have d0 : wr.cell? ⟨b', o' + k * 2, none⟩ = some (.int .i64 y0) := (hbw.cell (p := ⟨b', o' + k * 2, none⟩) hb').trans hc0
              have d1 : wr.cell? ⟨b', o' + k * 2 + 1, none⟩ = some (.int .i64 y1) := (hbw.cell (p := ⟨b', o' + k * 2 + 1, none⟩) hb').trans hc1
              have cu : wr.cell? ⟨wa.heap.size, 10, none⟩ = some u := hp.out.bx.cell 10
              obtain ⟨lk, hlk⟩ : ∃ lk, li.take k = lk := ⟨_, rfl⟩
              have hlen : lk.length = k := by rw [← hlk, List.length_take]; omega
              have hnx : li.take (k + 1) = lk ++ [(y0, y1)] := by
                rw [List.take_succ_eq_append_getElem hkt, hlk]
                congr 1
                rw [List.getD_eq_getElem?_getD, List.getElem?_eq_getElem hkt] at hy
                simpa using hy
              rw [hlk] at hp
              obtain ⟨ua, uc, hu, hkc⟩ := own_form' hp.out.row
              rw [hlen] at hu hkc
              subst hu
              have k0 : (0 : Int) ≤ k := by omega
              have k1 : (k : Int) < li.length := by omega
              have k2 : (k : Int) < 5 := by omega
              have HW2 := Lib.hid (show ∀ W', Below wa.heap.size wa W' → W'.cell? ⟨B, o + i, none⟩ = some (.slice (some ⟨b', o', none⟩) li.length ci) ∧ W'.cell? ⟨b', o' + k * 2, none⟩ = some (.int .i64 y0) ∧ W'.cell? ⟨b', o' + k * 2 + 1, none⟩ = some (.int .i64 y1) from fun W' hb =>
                ⟨(hb.cell (World.block_lt_of_cell? _ _ HW.out)).trans HW.out, ((fb_call HS.out.bel hb).cell (p := ⟨b', o' + k * 2, none⟩) hb').trans hc0, ((fb_call HS.out.bel hb).cell (p := ⟨b', o' + k * 2 + 1, none⟩) hb').trans hc1⟩)
              have HP := Lib.hid (And.intro hp.out (And.intro hlen hnx))
              have HROW := Lib.hid (show ∀ W', Below wr.heap.size wr W' → W'.ownsRow wa.heap.size 81 13 (.slice ua k uc) k (lk.flatMap abC) from fun W' hb => by
                have := hp.out.row.below hb (fun q hq => (World.ownsRow.lt hp.out.row q hq).2)
                unfold AbRow at this
                rw [hlen] at this
                exact this)
              have cua : ∀ ob, (wr.alloc ob).cell? ⟨wa.heap.size, 10, none⟩ = some (.slice ua k uc) := fun ob => ((fb_alloc (Below.refl _ wr) ob).cell (p := ⟨wa.heap.size, 10, none⟩) hp.out.bx.lt).trans cu
              have cud : ∀ ob, (wr.drew.alloc ob).cell? ⟨wa.heap.size, 10, none⟩ = some (.slice ua k uc) := fun ob => ((fb_alloc (bel_drew (Below.refl _ wr)) ob).cell (p := ⟨wa.heap.size, 10, none⟩) hp.out.bx.lt).trans cu
              clear hlk hlen hnx hcc hc0 hc1 hbw hb' hy hp
              go_upto_region 9 with fail
              have hS0 := HW2.out wr.drew (bel_drew HP.out.1.bel)
              refine wp_region_held (S := (fun wy => wy.cell? ⟨B, o + i, none⟩ = some (.slice (some ⟨b', o', none⟩) li.length ci) ∧ wy.cell? ⟨b', o' + k * 2, none⟩ = some (.int .i64 y0) ∧ wy.cell? ⟨b', o' + k * 2 + 1, none⟩ = some (.int .i64 y1))) (by kernel_rfl) ?_
              rw [show ({ wr with drawn := wr.drawn + 1 } : World) = wr.drew from rfl]
              refine wpAnyH_take (i := 0) (v := .pointer (some ⟨wa.heap.size, 10, none⟩)) rfl (by kernel_rfl) (by kernel_rfl) (by kernel_rfl) (fun _ _ _ h => h) (Or.inl ⟨by rfl, ?_⟩) hS0 ?_
              · intro wx hSw
                obtain ⟨s0_, s1_, s2_⟩ := hSw
                go_simp
              refine wpAnyH_take (i := 2) (v := .slice (some ⟨B, o, none⟩) L.length cap) rfl (by kernel_rfl) (by kernel_rfl) (by kernel_rfl) (fun _ _ _ h => h) (Or.inl ⟨by rfl, ?_⟩) hS0 ?_
              · intro wx hSw
                obtain ⟨s0_, s1_, s2_⟩ := hSw
                go_simp
              refine wpAnyH_take (i := 3) (v := .int .i64 i) rfl (by kernel_rfl) (by kernel_rfl) (by kernel_rfl) (fun _ _ _ h => h) (Or.inl ⟨by rfl, ?_⟩) hS0 ?_
              · intro wx hSw
                obtain ⟨s0_, s1_, s2_⟩ := hSw
                go_simp
              refine wpAnyH_take (i := 4) (v := .pointer (some ⟨B, o + i, none⟩)) rfl (by kernel_rfl) (by kernel_rfl) (by kernel_rfl) (fun _ _ _ h => h) (Or.inl ⟨by rfl, ?_⟩) hS0 ?_
              · intro wx hSw
                obtain ⟨s0_, s1_, s2_⟩ := hSw
                go_simp
              refine wpAnyH_take (i := 5) (v := .slice (some ⟨b', o', none⟩) li.length ci) rfl (by kernel_rfl) (by kernel_rfl) (by kernel_rfl) (fun _ _ _ h => h) (Or.inl ⟨by rfl, ?_⟩) hS0 ?_
              · intro wx hSw
                obtain ⟨s0_, s1_, s2_⟩ := hSw
                go_simp
              refine wpAnyH_take (i := 6) (v := .int .i64 k) rfl (by kernel_rfl) (by kernel_rfl) (by kernel_rfl) (fun _ _ _ h => h) (Or.inl ⟨by rfl, ?_⟩) hS0 ?_
              · intro wx hSw
                obtain ⟨s0_, s1_, s2_⟩ := hSw
                go_simp
              refine wpAnyH_take (i := 7) (v := .pointer (some ⟨b', o' + k * 2, none⟩)) rfl (by kernel_rfl) (by kernel_rfl) (by kernel_rfl) (fun _ _ _ h => h) (Or.inl ⟨by rfl, ?_⟩) hS0 ?_
              · intro wx hSw
                obtain ⟨s0_, s1_, s2_⟩ := hSw
                go_simp
              refine wpAnyH_take (i := 8) (v := .pointer (some ⟨b', o' + k * 2, none⟩)) rfl (by kernel_rfl) (by kernel_rfl) (by kernel_rfl) (fun _ _ _ h => h) (Or.inl ⟨by rfl, ?_⟩) hS0 ?_
              · intro wx hSw
                obtain ⟨s0_, s1_, s2_⟩ := hSw
                go_simp
              refine wpAnyH_take (i := 9) (v := .int .i64 y0) rfl (by kernel_rfl) (by kernel_rfl) (by kernel_rfl) (fun _ _ _ h => h) (Or.inl ⟨by rfl, ?_⟩) hS0 ?_
              · intro wx hSw
                obtain ⟨s0_, s1_, s2_⟩ := hSw
                go_simp
              refine wpAnyH_take (i := 10) (v := .slice (some ⟨B, o, none⟩) L.length cap) rfl (by kernel_rfl) (by kernel_rfl) (by kernel_rfl) (fun _ _ _ h => h) (Or.inl ⟨by rfl, ?_⟩) hS0 ?_
              · intro wx hSw
                obtain ⟨s0_, s1_, s2_⟩ := hSw
                go_simp
              refine wpAnyH_take (i := 11) (v := .int .i64 i) rfl (by kernel_rfl) (by kernel_rfl) (by kernel_rfl) (fun _ _ _ h => h) (Or.inl ⟨by rfl, ?_⟩) hS0 ?_
              · intro wx hSw
                obtain ⟨s0_, s1_, s2_⟩ := hSw
                go_simp
              refine wpAnyH_take (i := 12) (v := .pointer (some ⟨B, o + i, none⟩)) rfl (by kernel_rfl) (by kernel_rfl) (by kernel_rfl) (fun _ _ _ h => h) (Or.inl ⟨by rfl, ?_⟩) hS0 ?_
              · intro wx hSw
                obtain ⟨s0_, s1_, s2_⟩ := hSw
                go_simp
              refine wpAnyH_take (i := 13) (v := .slice (some ⟨b', o', none⟩) li.length ci) rfl (by kernel_rfl) (by kernel_rfl) (by kernel_rfl) (fun _ _ _ h => h) (Or.inl ⟨by rfl, ?_⟩) hS0 ?_
              · intro wx hSw
                obtain ⟨s0_, s1_, s2_⟩ := hSw
                go_simp
              refine wpAnyH_take (i := 14) (v := .int .i64 k) rfl (by kernel_rfl) (by kernel_rfl) (by kernel_rfl) (fun _ _ _ h => h) (Or.inl ⟨by rfl, ?_⟩) hS0 ?_
              · intro wx hSw
                obtain ⟨s0_, s1_, s2_⟩ := hSw
                go_simp
              refine wpAnyH_take (i := 15) (v := .pointer (some ⟨b', o' + k * 2, none⟩)) rfl (by kernel_rfl) (by kernel_rfl) (by kernel_rfl) (fun _ _ _ h => h) (Or.inl ⟨by rfl, ?_⟩) hS0 ?_
              · intro wx hSw
                obtain ⟨s0_, s1_, s2_⟩ := hSw
                go_simp
              refine wpAnyH_take (i := 16) (v := .pointer (some ⟨b', o' + k * 2 + 1, none⟩)) rfl (by kernel_rfl) (by kernel_rfl) (by kernel_rfl) (fun _ _ _ h => h) (Or.inl ⟨by rfl, ?_⟩) hS0 ?_
              · intro wx hSw
                obtain ⟨s0_, s1_, s2_⟩ := hSw
                go_simp
              refine wpAnyH_take (i := 17) (v := .int .i64 y1) rfl (by kernel_rfl) (by kernel_rfl) (by kernel_rfl) (fun _ _ _ h => h) (Or.inl ⟨by rfl, ?_⟩) hS0 ?_
              · intro wx hSw
                obtain ⟨s0_, s1_, s2_⟩ := hSw
                go_simp
              refine wpAnyH_take (i := 18) (v := .agg #[.int .i64 y0, .int .i64 y1, .int .i64 0, .int .i64 0, .int .i64 0, .int .i64 0, .int .i64 0, .bool false, .slice none 0 0, .slice none 0 0, .int .i64 0, .int .i64 0, .int .i64 0]) rfl (by kernel_rfl) (by kernel_rfl) (by kernel_rfl) (fun _ _ _ h => h) (Or.inl ⟨by rfl, ?_⟩) hS0 ?_
              · intro wx hSw
                obtain ⟨s0_, s1_, s2_⟩ := hSw
                go_simp
              refine wpAnyH_all (rs := [1, 19]) (by kernel_rfl) (by simp) ?_
              try simp only [Act.put]
              try simp only [List.setIfInBounds_toArray]
              try simp only [List.set_cons_zero, List.set_cons_succ]
              simp only [List.mem_cons, List.not_mem_nil, or_false, forall_eq_or_imp, forall_eq]
              refine ⟨?_, ?_⟩
              · skip
                refine heldOp rfl (by rfl) (fun K' hK' => ?_)
                go_simp
                refine hK' _ _ ⟨hS0, ?_⟩
                clear hK' K'
                refine wpAnyH_all (rs := [19]) (by kernel_rfl) (by simp) ?_
                try simp only [Act.put]
                try simp only [List.setIfInBounds_toArray]
                try simp only [List.set_cons_zero, List.set_cons_succ]
                simp only [List.mem_cons, List.not_mem_nil, or_false, forall_eq]
                refine heldOp rfl (by rfl) (fun K' hK' => ?_)
                go_simp
                refine hK' _ _ ⟨HW2.out _ (by first | exact fb_alloc (bel_drew HP.out.1.bel) _ | exact bel_drew (fb_alloc HP.out.1.bel _)), ?_⟩
                clear hK' K'
                refine wpAnyH_all (rs := [20]) (by kernel_rfl) (by simp) ?_
                try simp only [Act.put]
                try simp only [List.setIfInBounds_toArray]
                try simp only [List.set_cons_zero, List.set_cons_succ]
                simp only [List.mem_cons, List.not_mem_nil, or_false, forall_eq]
                refine heldAppend rfl rfl (.tmp 31) (.tmp 49) 73 rfl wa.heap.size 81 i0 abZero 13 136 Tryd.underlying73 hi0 hz0 hz1 hz2 rfl (by decide) (.slice ua k uc) k (lk.flatMap abC) (by simp [Act.eval]) (HROW.out _ (by first | exact fb_alloc (bel_drew (Below.refl _ _)) _ | exact bel_drew (fb_alloc (Below.refl _ _) _))) ⟨wr.heap.size, 0, none⟩ 1 1 (abC (y0, y1)) (by simp [Act.eval]) rfl (news_arr (t := 81) (vs := abC (y0, y1)) (Arr.new _ _ _)) (ab_one _) (by unfold maxLen; omega) (by omega) (by have := HP.out.1.bel.size; simp; omega) ?_
                intro v1 w1 hown1 hgrow1 hfr1
                obtain ⟨g1, cap1, rfl⟩ := own_form hown1 (by omega)
                have G := PIn.grow HP.out.1 (by first | exact fb_alloc (bel_drew (Below.refl _ _)) _ | exact bel_drew (fb_alloc (Below.refl _ _) _)) hgrow1 (AbRow.snoc (l := lk) (q := (y0, y1)) (by rw [HP.out.2.1]; exact hown1))
                have g10 : w1.cell? ⟨wa.heap.size, 10, none⟩ = some (.slice ua k uc) := G.1 10
                have gf := G.2.1 10
                have HG := Lib.hid G.2.2.2
                refine ⟨HW2.out w1 G.2.2.1, ?_⟩
                clear hown1 hgrow1 hfr1
                refine wpAnyH_all (rs := [21]) (by kernel_rfl) (by simp) ?_
                try simp only [Act.put]
                try simp only [List.setIfInBounds_toArray]
                try simp only [List.set_cons_zero, List.set_cons_succ]
                simp only [List.mem_cons, List.not_mem_nil, or_false, forall_eq]
                refine heldOp rfl (by rfl) (fun K' hK' => ?_)
                go_simp
                refine hK' _ _ ⟨HW2.out w1 G.2.2.1, ?_⟩
                clear hK' K'
                refine wpAnyH_all (rs := [22]) (by kernel_rfl) (by simp) ?_
                try simp only [Act.put]
                try simp only [List.setIfInBounds_toArray]
                try simp only [List.set_cons_zero, List.set_cons_succ]
                simp only [List.mem_cons, List.not_mem_nil, or_false, forall_eq]
                refine heldOp rfl (by rfl) (fun K' hK' => ?_)
                go_simp
                refine hK' _ _ ⟨HW2.out _ HG.out.bel, ?_⟩
                clear hK' K'
                refine wpAnyH_done (by kernel_rfl) ?_ _
                go_wp2
                go_roundw
                case rel => exact ⟨k + 1, _, by omega, by omega, by go_num, by rw [HP.out.2.2]; exact HG⟩
                case measure => simp [intOf]; omega
              · skip
                refine heldOp rfl (by rfl) (fun K' hK' => ?_)
                go_simp
                refine hK' _ _ ⟨HW2.out _ (by first | exact fb_alloc (bel_drew HP.out.1.bel) _ | exact bel_drew (fb_alloc HP.out.1.bel _)), ?_⟩
                clear hK' K'
                refine wpAnyH_all (rs := [1]) (by kernel_rfl) (by simp) ?_
                try simp only [Act.put]
                try simp only [List.setIfInBounds_toArray]
                try simp only [List.set_cons_zero, List.set_cons_succ]
                simp only [List.mem_cons, List.not_mem_nil, or_false, forall_eq]
                refine heldOp rfl (by rfl) (fun K' hK' => ?_)
                go_simp
                refine hK' _ _ ⟨HW2.out _ (by first | exact fb_alloc (bel_drew HP.out.1.bel) _ | exact bel_drew (fb_alloc HP.out.1.bel _)), ?_⟩
                clear hK' K'
                refine wpAnyH_all (rs := [20]) (by kernel_rfl) (by simp) ?_
                try simp only [Act.put]
                try simp only [List.setIfInBounds_toArray]
                try simp only [List.set_cons_zero, List.set_cons_succ]
                simp only [List.mem_cons, List.not_mem_nil, or_false, forall_eq]
                refine heldAppend rfl rfl (.tmp 31) (.tmp 49) 73 rfl wa.heap.size 81 i0 abZero 13 136 Tryd.underlying73 hi0 hz0 hz1 hz2 rfl (by decide) (.slice ua k uc) k (lk.flatMap abC) (by simp [Act.eval]) (HROW.out _ (by first | exact fb_alloc (bel_drew (Below.refl _ _)) _ | exact bel_drew (fb_alloc (Below.refl _ _) _))) ⟨wr.heap.size, 0, none⟩ 1 1 (abC (y0, y1)) (by simp [Act.eval]) rfl (news_arr (t := 81) (vs := abC (y0, y1)) (Arr.new _ _ _)) (ab_one _) (by unfold maxLen; omega) (by omega) (by have := HP.out.1.bel.size; simp; omega) ?_
                intro v1 w1 hown1 hgrow1 hfr1
                obtain ⟨g1, cap1, rfl⟩ := own_form hown1 (by omega)
                have G := PIn.grow HP.out.1 (by first | exact fb_alloc (bel_drew (Below.refl _ _)) _ | exact bel_drew (fb_alloc (Below.refl _ _) _)) hgrow1 (AbRow.snoc (l := lk) (q := (y0, y1)) (by rw [HP.out.2.1]; exact hown1))
                have g10 : w1.cell? ⟨wa.heap.size, 10, none⟩ = some (.slice ua k uc) := G.1 10
                have gf := G.2.1 10
                have HG := Lib.hid G.2.2.2
                refine ⟨HW2.out w1 G.2.2.1, ?_⟩
                clear hown1 hgrow1 hfr1
                refine wpAnyH_all (rs := [21]) (by kernel_rfl) (by simp) ?_
                try simp only [Act.put]
                try simp only [List.setIfInBounds_toArray]
                try simp only [List.set_cons_zero, List.set_cons_succ]
                simp only [List.mem_cons, List.not_mem_nil, or_false, forall_eq]
                refine heldOp rfl (by rfl) (fun K' hK' => ?_)
                go_simp
                refine hK' _ _ ⟨HW2.out w1 G.2.2.1, ?_⟩
                clear hK' K'
                refine wpAnyH_all (rs := [22]) (by kernel_rfl) (by simp) ?_
                try simp only [Act.put]
                try simp only [List.setIfInBounds_toArray]
                try simp only [List.set_cons_zero, List.set_cons_succ]
                simp only [List.mem_cons, List.not_mem_nil, or_false, forall_eq]
                refine heldOp rfl (by rfl) (fun K' hK' => ?_)
                go_simp
                refine hK' _ _ ⟨HW2.out _ HG.out.bel, ?_⟩
                clear hK' K'
                refine wpAnyH_done (by kernel_rfl) ?_ _
                go_wp2
                go_roundw
                case rel => exact ⟨k + 1, _, by omega, by omega, by go_num, by rw [HP.out.2.2]; exact HG⟩
                case measure => simp [intOf]; omega
            · obtain rfl : k = 5 := by omega
              have k1 : (5 : Int) < li.length := by omega
              have hfin : li.take 5 = li.take 5 := rfl
              rw [hfin] at hp
              obtain ⟨ua, uc, hu, _⟩ := own_form' hp.out.row
              obtain ⟨un, hun⟩ : ∃ n, (li.take 5).length = n := ⟨_, rfl⟩
              rw [hun] at hu
              subst hu
              have b0 : wr.cell? ⟨wa.heap.size, 0, none⟩ = some (.string "".toUTF8) := hp.out.bx.cell 0
              have b1 : wr.cell? ⟨wa.heap.size, 1, none⟩ = some (.int .i64 0) := hp.out.bx.cell 1
              have b2 : wr.cell? ⟨wa.heap.size, 2, none⟩ = some (.int .i64 0) := hp.out.bx.cell 2
              have b3 : wr.cell? ⟨wa.heap.size, 3, none⟩ = some (.int .i64 0) := hp.out.bx.cell 3
              have b4 : wr.cell? ⟨wa.heap.size, 4, none⟩ = some (.int .i64 0) := hp.out.bx.cell 4
              have b5 : wr.cell? ⟨wa.heap.size, 5, none⟩ = some (.int .i64 0) := hp.out.bx.cell 5
              have b6 : wr.cell? ⟨wa.heap.size, 6, none⟩ = some (.int .i64 0) := hp.out.bx.cell 6
              have b7 : wr.cell? ⟨wa.heap.size, 7, none⟩ = some (.int .i64 0) := hp.out.bx.cell 7
              have b8 : wr.cell? ⟨wa.heap.size, 8, none⟩ = some (.int .i64 0) := hp.out.bx.cell 8
              have b9 : wr.cell? ⟨wa.heap.size, 9, none⟩ = some (.int .i64 0) := hp.out.bx.cell 9
              have b10 : wr.cell? ⟨wa.heap.size, 10, none⟩ = some (.slice ua un uc) := hp.out.bx.cell 10
              have HP := Lib.hid hp.out
              have hL1 : L.take (i + 1) = L.take i ++ [li] := by
                rw [List.take_succ_eq_append_getElem hlt]
                congr 1
                rw [List.getD_eq_getElem?_getD, List.getElem?_eq_getElem hlt] at hli
                simpa using hli
              have HL1 := Lib.hid (show (L.take (i + 1)).map (fun l => l.take 5) = (L.take i).map (fun l => l.take 5) ++ [li.take 5] by rw [hL1, List.map_append]; rfl)
              have hvl : vs.length ≤ 1000 := by have := HS.out.len; simp at this; omega
              have HVL := Lib.hid hvl
              obtain ⟨oa, oc, hov, _⟩ := own_form' HS.out.row
              have HOV := Lib.hid hov
              clear hp hfin hun hL1 hvl hov
              go_wp2_with (at_builtin; refine wpList_append_fresh _ rfl (.tmp 52) (.tmp 54) 26 rfl w.heap.size 75 i1 cdZero 11 112 Tryd.underlying26 hi1 hy0 hy1 hy2 rfl (by decide) _ vs.length (vs.flatMap cardC) rfl ((HS.out.below (fb_call HP.out.bel (fb_alloc (Below.refl _ _) _))).row) ⟨wr.heap.size, 0, none⟩ 1 1 (cardC (.slice ua un uc)) rfl rfl (news_arr (t := 75) (vs := cardC (.slice ua un uc)) (Arr.new _ _ _)) (cd_one rfl) (by have := HVL.out; unfold maxLen; omega) (by have := HVL.out; omega) (by have := (fb_call HS.out.bel HP.out.bel).size; simp; omega) ?_; intro v1 w1 hown1 hgrow1 hfr1; have HG := Lib.hid (POut.push HS.out HP.out (fb_alloc (Below.refl _ _) _) hown1 hgrow1); clear hown1 hgrow1 hfr1)
              go_roundw
              case rel => exact ⟨i + 1, _, by omega, by omega, by go_num, by rw [HL1.out]; exact HG⟩
              case measure => simp [intOf]; omega
          · obtain rfl : k = li.length := by omega
            have hfin : li.take li.length = li.take 5 := by rw [List.take_of_length_le (Nat.le_refl _), List.take_of_length_le (by omega)]
            rw [hfin] at hp
            obtain ⟨ua, uc, hu, _⟩ := own_form' hp.out.row
            obtain ⟨un, hun⟩ : ∃ n, (li.take 5).length = n := ⟨_, rfl⟩
            rw [hun] at hu
            subst hu
            have b0 : wr.cell? ⟨wa.heap.size, 0, none⟩ = some (.string "".toUTF8) := hp.out.bx.cell 0
            have b1 : wr.cell? ⟨wa.heap.size, 1, none⟩ = some (.int .i64 0) := hp.out.bx.cell 1
            have b2 : wr.cell? ⟨wa.heap.size, 2, none⟩ = some (.int .i64 0) := hp.out.bx.cell 2
            have b3 : wr.cell? ⟨wa.heap.size, 3, none⟩ = some (.int .i64 0) := hp.out.bx.cell 3
            have b4 : wr.cell? ⟨wa.heap.size, 4, none⟩ = some (.int .i64 0) := hp.out.bx.cell 4
            have b5 : wr.cell? ⟨wa.heap.size, 5, none⟩ = some (.int .i64 0) := hp.out.bx.cell 5
            have b6 : wr.cell? ⟨wa.heap.size, 6, none⟩ = some (.int .i64 0) := hp.out.bx.cell 6
            have b7 : wr.cell? ⟨wa.heap.size, 7, none⟩ = some (.int .i64 0) := hp.out.bx.cell 7
            have b8 : wr.cell? ⟨wa.heap.size, 8, none⟩ = some (.int .i64 0) := hp.out.bx.cell 8
            have b9 : wr.cell? ⟨wa.heap.size, 9, none⟩ = some (.int .i64 0) := hp.out.bx.cell 9
            have b10 : wr.cell? ⟨wa.heap.size, 10, none⟩ = some (.slice ua un uc) := hp.out.bx.cell 10
            have HP := Lib.hid hp.out
            have hL1 : L.take (i + 1) = L.take i ++ [li] := by
              rw [List.take_succ_eq_append_getElem hlt]
              congr 1
              rw [List.getD_eq_getElem?_getD, List.getElem?_eq_getElem hlt] at hli
              simpa using hli
            have HL1 := Lib.hid (show (L.take (i + 1)).map (fun l => l.take 5) = (L.take i).map (fun l => l.take 5) ++ [li.take 5] by rw [hL1, List.map_append]; rfl)
            have hvl : vs.length ≤ 1000 := by have := HS.out.len; simp at this; omega
            have HVL := Lib.hid hvl
            obtain ⟨oa, oc, hov, _⟩ := own_form' HS.out.row
            have HOV := Lib.hid hov
            clear hp hfin hun hL1 hvl hov
            go_wp2_with (at_builtin; refine wpList_append_fresh _ rfl (.tmp 52) (.tmp 54) 26 rfl w.heap.size 75 i1 cdZero 11 112 Tryd.underlying26 hi1 hy0 hy1 hy2 rfl (by decide) _ vs.length (vs.flatMap cardC) rfl ((HS.out.below (fb_call HP.out.bel (fb_alloc (Below.refl _ _) _))).row) ⟨wr.heap.size, 0, none⟩ 1 1 (cardC (.slice ua un uc)) rfl rfl (news_arr (t := 75) (vs := cardC (.slice ua un uc)) (Arr.new _ _ _)) (cd_one rfl) (by have := HVL.out; unfold maxLen; omega) (by have := HVL.out; omega) (by have := (fb_call HS.out.bel HP.out.bel).size; simp; omega) ?_; intro v1 w1 hown1 hgrow1 hfr1; have HG := Lib.hid (POut.push HS.out HP.out (fb_alloc (Below.refl _ _) _) hown1 hgrow1); clear hown1 hgrow1 hfr1)
            go_roundw
            case rel => exact ⟨i + 1, _, by omega, by omega, by go_num, by rw [HL1.out]; exact HG⟩
            case measure => simp [intOf]; omega
      · obtain rfl : i = 45 := by omega
        have i01 : (45 : Int) < L.length := by omega
        have HR := Lib.hid hst
        clear hst
        go_wp2
        go_ret
        exact ⟨_, vs, rfl, HR.out.out⟩
    · obtain rfl : i = L.length := by omega
      have HR := Lib.hid hst
      have hT : L.take 45 = L := List.take_of_length_le (by omega)
      rw [List.take_length] at HR
      have HT := Lib.hid hT
      clear hst hT
      go_wp2
      go_ret
      refine ⟨_, vs, rfl, ?_⟩
      rw [HT.out]
      exact HR.out.out
end Go.Proofs.YtcgadmeagbcbnaaDoor
