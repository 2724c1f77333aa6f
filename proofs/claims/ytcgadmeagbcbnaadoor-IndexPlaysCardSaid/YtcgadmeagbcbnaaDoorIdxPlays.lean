/- The walk of IndexPlays. No condition but the library's table. -/
import Derived.Test.YtcgadmeagbcbnaaDoorIdxPl
import Derived.Test.YtcgadmeagbcbnaaDoorIdxWorks
import Derived.Test.YtcgadmeagbcbnaaDoorReg
import Derived.Test.YtcgadmeagbcbnaaDoorOpenT
import Derived.Deep.CutBlock
import Derived.Deep.WholeRow
namespace Go.Proofs.YtcgadmeagbcbnaaDoor
open Go.RowKit
attribute [local irreducible] Calls

def DX33 : List (Option Nat) := [some 116, some 117, some 118, some 119, some 120, some 121, some 122, some 123, some 124, some 125, some 126, some 127, some 128, some 129, some 130, some 131, some 132, some 133, some 134, some 135, some 136, some 137, some 138, some 139, some 140, some 141, some 142, some 143, some 144, some 145, some 146, some 147, some 148, some 149]
def TLX33 (bX X : Nat) (x1 x2 er cx : Int) (S1 S2 : List Nat) : List TyX := [
  .is (.pointer (some ⟨bX, 0, none⟩)),
  .is (.pointer (some ⟨X, 1, none⟩)),
  .is (.int .i64 x1),
  .is (.int .i64 cx),
  .is (.pointer (some ⟨X, 1, none⟩)),
  .is (.int .i64 x1),
  .is (.int .i64 cx),
  .is (.bool false),
  .is (.bool false),
  .is (.pointer (some ⟨bX, 0, none⟩)),
  .is (svL S1),
  .ints (lst S1),
  .ints (lst S1),
  .is (.bool true),
  .is (.bool false),
  .is (.bool false),
  .is (.bool false),
  .is (.pointer (some ⟨bX, 0, none⟩)),
  .is (.pointer (some ⟨X, 2, none⟩)),
  .is (.int .i64 x2),
  .is (.pointer (some ⟨X, 1, none⟩)),
  .is (.int .i64 x1),
  .is (.int .i64 er),
  .is (svL S2),
  .ints (lst S2),
  .is (.pointer (some ⟨X, 2, none⟩)),
  .is (.int .i64 x2),
  .is (.pointer (some ⟨X, 1, none⟩)),
  .is (.int .i64 x1),
  .is (.int .i64 er),
  .ints (lst S2),
  .is (.bool true),
  .is (.bool false),
  .is (.bool false)]

theorem ints_q {w : World} {v : Value} {S T : List Nat} (h : Ints w w.heap.size v (zl (lst S))) (e : S = T) : Ints w w.heap.size v (zl (lst T)) := e ▸ h
set_option maxRecDepth 100000 in
set_option maxHeartbeats 8000000 in
theorem indexPlays_walk (a : Option Addr) (len cap : Nat) (F : Nat → Nat → Int) (cv : Value) (L : List (List (Int × Int))) (w : World) (hR : Rws w w.heap.size .i64 3 (.slice a len cap) len F) (hl : (len : Int) ≤ 9223372036854775807)
    (hL : Hss w w.heap.size cv L) (hlm : L.length ≤ 9223372036854775807) (hwf : ∀ l ∈ L, ∀ q ∈ l, wf2 q.1 q.2) (hT : TabAt w) (h0 : 0 < w.heap.size) :
    Calls Tryd.prog 3 #[.slice a len cap, cv] w fun e w' => e = .returned (.bool true) ∧ Below w.heap.size w w' := by
  obtain ⟨ii, hii, hi0, hi1, hi2⟩ := info_parts infoI
  obtain ⟨ix, hix, hx0, hx1, hx2⟩ := info_parts infoD
  have HR := Lib.hid hR
  have HTT := Lib.hid (And.intro hT h0)
  have HL := Lib.hid (And.intro hL (And.intro hlm hwf))
  clear hR hT h0 hL hlm hwf
  go_enter Tryd.func3, Tryd.ntmps3
  go_wp2_with fail
  refine (tr_new w).mono ?_
  rintro e w1 ⟨rfl, hT0⟩
  have HT1 := Lib.hid (hT0 w (Below.refl _ _))
  obtain ⟨T, hTn⟩ : ∃ T, w.heap.size = T := ⟨_, rfl⟩
  have HTN := Lib.hid hTn
  have HB1 := Lib.hid HT1.out.2
  rw [hTn] at HT1 ⊢
  clear hT0 hTn
  go_wp2_with fail
  refine (pool_any w1 cv L (HL.out.1.below HB1.out) HL.out.2.1).mono ?_
  rintro e w2 ⟨u, vs, rfl, hp⟩
  have HP := Lib.hid hp
  clear hp
  obtain ⟨abs, habs⟩ : ∃ abs, (L.take 45).map (fun l => l.take 5) = abs := ⟨_, rfl⟩
  have HA : Hid ((abs.length ≤ 1000 ∧ (∀ i, i < abs.length → (abs.getD i []).length ≤ 5)) ∧ ∀ i, i < abs.length → ∀ q ∈ abs.getD i [], wf2 q.1 q.2) := Lib.hid (by
    have hg : ∀ i, i < abs.length → ∃ l ∈ L, abs.getD i [] = l.take 5 := fun i hi => by
      have hm : abs.getD i [] ∈ abs := by rw [List.getD_eq_getElem?_getD, List.getElem?_eq_getElem hi]; exact List.getElem_mem _
      rw [← habs] at hm
      obtain ⟨l, hl, e⟩ := List.mem_map.1 hm
      exact ⟨l, List.mem_of_mem_take hl, by rw [← habs]; exact e.symm⟩
    refine ⟨⟨by rw [← habs]; simp; omega, fun i hi => ?_⟩, fun i hi q hq => ?_⟩
    · obtain ⟨l, _, e⟩ := hg i hi
      rw [e]; simp; omega
    · obtain ⟨l, hl, e⟩ := hg i hi
      rw [e] at hq
      exact HL.out.2.2 l hl q (List.mem_of_mem_take hq))
  rw [habs] at HP
  clear habs
  go_wp2_with fail
  refine (inew_any (w0 := w) (col := fun j => if j < w1.heap.size then 1 else 2) (c := 1) (HT1.out.1.below HP.out.bel) (fun j hj => if_pos (HT1.out.1.base hj).2) (by simp) (by simp) HP.out.cards HA.out.1.1 HA.out.1.2 HA.out.2 (fun _ => True) trivial (fun _ _ _ _ _ _ => trivial)).mono ?_
  rintro e w3 ⟨b, q, rfl, hbT, hba, _, _, hN⟩
  have HBT := Lib.hid hbT
  have HX := Lib.hid (x_start w HP.out (hN.mono (n := 40) (by simp)) hba)
  have hu : ∃ a c, u = .slice a abs.length c := by obtain ⟨a, c, h, _⟩ := HP.out.cards.form; exact ⟨a, c, h⟩
  obtain ⟨ua, uc, rfl⟩ := hu
  clear hbT hba hN HP HA HT1
  have hst0 := store_zero w3 (.slice ua abs.length uc) rfl
  have hD0 := HX.out.bel.size
  go_upto_region 4 with fail
  clear hst0
  generalize World.alloc _ _ = w4 at HX hD0 ⊢
  generalize w3.heap.size = D at HX ⊢
  have HX2 := HX
  obtain ⟨S0, hS0⟩ : ∃ S0, rowsOf (.slice ua abs.length uc) vs = S0 := ⟨_, rfl⟩
  rw [hS0] at HX HX2
  obtain ⟨cdv, hcdv⟩ : ∃ x, Value.slice ua abs.length uc = x := ⟨_, rfl⟩
  rw [hcdv] at HX HX2
  obtain ⟨g, hg⟩ : ∃ g : PG, (⟨b, D, cdv, vs, S0⟩ : PG) = g := ⟨_, rfl⟩
  rw [hg] at HX
  have eX : b.X = g.b.X := by rw [← hg]
  have eD : D = g.D := by rw [← hg]
  have eT : T = g.b.T := by rw [← hg]; exact HBT.out.symm
  rw [eX, eD, eT]
  have HUC := Lib.hid (show g.u.oneCell' = true from by rw [← hg, ← hcdv]; rfl)
  clear eX eD eT hg HX2 HBT HTN hcdv hS0
  go_wp2
  go_loopw [9, 10, 11] (fun x9 x10 x11 wr => ∃ (i k : Nat) (q : List Int × List (Int × Int)) (m : IM) (kv sv : Value) (S : List XE) (X0 : Nat) (xs0 : List Value), i ≤ len ∧ i ≤ 80 ∧ x11 = .int .i64 i ∧ kv = x9 ∧ sv = x10 ∧
    Hid (RX w wr g ⟨k, q, m, m, kv, xks S, sv, xss S, X0, xs0⟩ ∧ k ≤ 40 + 110 * i ∧ XChn g.b k q S ∧ S.length ≤ i)) (fun _ _ x _ => len - (intOf x).toNat)
  case atStart => exact ⟨0, 40, _, _, _, _, [], _, _, Nat.zero_le _, by omega, rfl, rfl, rfl, Lib.hid ⟨HX.out, Nat.le_refl _, trivial, Nat.le_refl _⟩⟩
  case round =>
    obtain ⟨i, k, q, m, kv, sv, S, X0, xs0, hil, hi80, rfl, rfl, rfl, hst⟩ := hrel
    clear HX hD0
    by_cases hlt : i < len
    · by_cases h80 : i < 80
      · obtain ⟨a', c', e, _, _, hcells⟩ := HR.out
        injection e with e1 e2 e3
        subst e1 e3
        obtain ⟨B, o, rfl, hb, hcells⟩ := hcells.resolve_left (by omega)
        have hbw := hst.out.1.bel
        obtain ⟨x0, hx0⟩ : ∃ x, F i 0 = x := ⟨_, rfl⟩
        obtain ⟨x1, hx1⟩ : ∃ x, F i 1 = x := ⟨_, rfl⟩
        obtain ⟨x2, hx2⟩ : ∃ x, F i 2 = x := ⟨_, rfl⟩
        have hx := hcells i hlt 0 (by omega)
        have hy := hcells i hlt 1 (by omega)
        have hz := hcells i hlt 2 (by omega)
        rw [hx0] at hx
        rw [hx1] at hy
        rw [hx2] at hz
        have cx : wr.cell? ⟨B, o + i * 3, none⟩ = some (.int .i64 x0) := (hbw.cell (p := ⟨B, o + i * 3, none⟩) hb).trans hx.1
        have cy : wr.cell? ⟨B, o + i * 3 + 1, none⟩ = some (.int .i64 x1) := (hbw.cell (p := ⟨B, o + i * 3 + 1, none⟩) hb).trans hy.1
        have cz : wr.cell? ⟨B, o + i * 3 + 2, none⟩ = some (.int .i64 x2) := (hbw.cell (p := ⟨B, o + i * 3 + 2, none⟩) hb).trans hz.1
        have HWF := Lib.hid (And.intro hy.2 hz.2)
        have HST := hst
        have i0 : (0 : Int) ≤ i := by omega
        have i1 : (i : Int) < len := by omega
        have i2 : (i : Int) < 80 := by omega
        clear hst hbw hx hy hz hx0 hx1 hx2 hcells hb
        go_upto_region 10 with fail
        obtain ⟨X, hX⟩ : ∃ X, wr.heap.size = X := ⟨_, rfl⟩
        obtain ⟨wa, hwa⟩ : ∃ wa, wr.alloc (.cells #[.int .i64 x0, .int .i64 x1, .int .i64 x2] 37) = wa := ⟨_, rfl⟩
        have HQ := Lib.hid (show QX w wa g ⟨k, q, m, m, kv, xks S, sv, xss S, X, [.int .i64 x0, .int .i64 x1, .int .i64 x2]⟩ from by
          rw [← hwa, ← hX]
          exact HST.out.1.act (fb_alloc (Below.refl _ _) _) (Arr.new wr _ [.int .i64 x0, .int .i64 x1, .int .i64 x2]) (Nat.le_refl _))
        have HK := Lib.hid HST.out.2
        obtain ⟨kx, kc, hkv⟩ := HQ.out.marks.any
        have hkv' : kv = .slice kx S.length kc := by rw [← xks_len]; exact hkv
        subst hkv'
        obtain ⟨sx, sc, hsv, _⟩ := own_form' HQ.out.saved
        have hsv' : sv = .slice sx S.length sc := by rw [← xss_len]; exact hsv
        subst hsv'
        rw [hwa, hX]
        have c0 : wa.cell? ⟨X, 0, none⟩ = some (.int .i64 x0) := HQ.out.box.cell 0
        have c1 : wa.cell? ⟨X, 1, none⟩ = some (.int .i64 x1) := HQ.out.box.cell 1
        have c2 : wa.cell? ⟨X, 2, none⟩ = some (.int .i64 x2) := HQ.out.box.cell 2
        have hsl : S.length ≤ 80 := by have := HK.out.2.2; omega
        have hk9 : k ≤ 9000 := by have := HK.out.1; omega
        clear hwa hX cx cy cz HST hkv hsv
        go_upto_block 2 with fail
        go_cut [9, 10, 13] from 24 to 149 (fun s9 s10 s13 wx => ∃ (k' : Nat) (q' : List Int × List (Int × Int)) (m' : IM) (kv' sv' : Value) (S' : List XE), kv' = s9 ∧ sv' = s10 ∧
          Hid (QX w wx g ⟨k', q', m', m', kv', xks S', sv', xss S', X, [.int .i64 x0, .int .i64 x1, .int .i64 x2]⟩ ∧ k' ≤ 40 + 110 * (i + 1) ∧ XChn g.b k' q' S' ∧ S'.length ≤ i + 1))
        case first =>
          by_cases h3 : x0 = 3
          · subst h3
            as_aux_lemma =>
              go_wp2_with (first | (go_at_call 11; refine (x_take HQ.out (show k ≤ 700000000 by omega) x1).mono ?_; rintro e w5 ⟨rfl, hN⟩; have HN := Lib.hid hN; have d1 : w5.cell? ⟨X, 1, none⟩ = some (.int .i64 x1) := hN.box.cell 1; have d2 : w5.cell? ⟨X, 2, none⟩ = some (.int .i64 x2) := hN.box.cell 2; clear hN) | (go_at_call 12; refine (d_take HN.out x1).mono ?_; rintro e w6 ⟨rfl, hM⟩; have HM := Lib.hid hM; clear hM))
              go_meet
              exact ⟨k + 110, q, takeI g.b.abs x1 m, _, _, S, rfl, rfl, Lib.hid ⟨HM.out, by have := HK.out.1; omega, HK.out.2.1.mono (by omega), by have := HK.out.2.2; omega⟩⟩
          · by_cases h4 : x0 = 4
            · subst h4
              as_aux_lemma =>
                go_wp2_with (first | (go_at_call 13; refine (x_touch HQ.out (show k ≤ 700000000 by omega) x1).mono ?_; rintro e w5 ⟨rfl, hN⟩; have HN := Lib.hid hN; have d1 : w5.cell? ⟨X, 1, none⟩ = some (.int .i64 x1) := hN.box.cell 1; have d2 : w5.cell? ⟨X, 2, none⟩ = some (.int .i64 x2) := hN.box.cell 2; clear hN) | (go_at_call 14; refine (d_touch HN.out x1).mono ?_; rintro e w6 ⟨rfl, hM⟩; have HM := Lib.hid hM; clear hM))
                go_meet
                exact ⟨k + 60, q, touchI x1 m, _, _, S, rfl, rfl, Lib.hid ⟨HM.out, by have := HK.out.1; omega, HK.out.2.1.mono (by omega), by have := HK.out.2.2; omega⟩⟩
            · by_cases h5 : x0 = 5
              · subst h5
                as_aux_lemma =>
                  go_wp2_with (first | (go_at_call 15; refine (x_clear HQ.out (show k ≤ 700000000 by omega) x1).mono ?_; rintro e w5 ⟨rfl, hN⟩; have HN := Lib.hid hN; have d1 : w5.cell? ⟨X, 1, none⟩ = some (.int .i64 x1) := hN.box.cell 1; have d2 : w5.cell? ⟨X, 2, none⟩ = some (.int .i64 x2) := hN.box.cell 2; clear hN) | (go_at_call 14; refine (d_clear HN.out x1).mono ?_; rintro e w6 ⟨rfl, hM⟩; have HM := Lib.hid hM; clear hM))
                  go_meet
                  exact ⟨k + 60, q, clearI x1 m, _, _, S, rfl, rfl, Lib.hid ⟨HM.out, by have := HK.out.1; omega, HK.out.2.1.mono (by omega), by have := HK.out.2.2; omega⟩⟩
              · by_cases h6 : x0 = 6
                · subst h6
                  as_aux_lemma =>
                    have hk5 : (xks S).length ≤ 80 := by rw [xks_len]; exact hsl
                    go_wp2_with fail
                    refine (x_mark HQ.out).mono ?_
                    rintro e w' ⟨q', mk, rfl, hM, hN, hh, rfl⟩
                    have HM := Lib.hid (And.intro hM hh)
                    have HQ2 := Lib.hid hN
                    have hsz := hN.bel.size
                    clear hM hN hh HQ
                    have HW2 := Lib.hid (HQ2.out.below (fb_alloc (Below.refl _ wa) (.cells #[.int .i64 mk] 3)))
                    have hrow : (wa.alloc (.cells #[.int .i64 mk] 3)).ownsRow w.heap.size 3 1 (.slice kx S.length kc) S.length ((xks S).map (Value.int .i64)) := by
                      have h5 : IRow (wa.alloc (.cells #[.int .i64 mk] 3)) w.heap.size (.slice kx S.length kc) (xks S) := HW2.out.marks
                      unfold IRow at h5
                      rw [xks_len] at h5
                      exact h5
                    go_upto_region 24 with (at_builtin; refine wpList_append_fresh _ rfl _ _ 34 rfl w.heap.size 3 ii (.int .i64 0) 1 8 Tryd.underlying34 hii hi0 hi1 hi2 rfl (by decide) _ _ _ rfl hrow ⟨wa.heap.size, 0, none⟩ 1 1 [.int .i64 mk] rfl rfl (cell_one_new _ _ _) (by simp [Value.oneCell']) (by unfold maxLen; omega) (by omega) (by simp; omega) ?_; intro v5 w5 hr5 hg5 hf5; have HQ5 := Lib.hid (QX.app5 HW2.out (IRow.app (l := xks S) (by rw [xks_len]; exact hr5)) hg5 hf5); clear hr5 hg5 hf5)
                    clear HQ2 HW2 hrow
                    have HGM := Lib.hid HQ5.out.1
                    have hlen := docM_len (u := g.u) HGM.out
                    have hA : Arr w5 g.D 33 (docM g.u m) := HQ5.out.doc.2
                    have hsz5 := HQ5.out.bel.size
                    have HQ6 := Lib.hid (HQ5.out.below (fb_alloc (Below.refl _ w5) (.cells (docM g.u m).toArray 33)))
                    have hrow : (w5.alloc (.cells (docM g.u m).toArray 33)).ownsRow w.heap.size 33 513 (.slice sx S.length sc) S.length ((xss S).flatMap (docM g.u)) := by
                      have h5 := HQ6.out.saved
                      rw [show (xss S).length = S.length from xss_len S] at h5
                      exact h5
                    refine wp_region_list ?_
                    refine wpList_mv rfl _ rfl ?_
                    refine wpList_load_cells rfl 33 (.tmp 8) rfl ⟨g.D, 0, none⟩ rfl (docM g.u m) _ Tryd.underlying33 rfl (by rw [sizeD, hlen]) (news_arr hA) ?_
                    refine wpList_buildSlice rfl 35 33 1 _ rfl (docM g.u m).toArray ix (.agg (docZ (.slice none 0 0)).toArray) Tryd.underlying35 hix hx0 (by rw [hx1]; decide) (by rw [hx1]; decide) (by
                      rw [hx1]
                      simp only [List.map_toArray, List.map_cons, List.map_nil]
                      exact fill_doc _ hlen _ (by simp)) ?_
                    refine wpList_append_fresh _ rfl (.tmp 85) (.tmp 87) 35 rfl w.heap.size 33 ix (.agg (docZ (.slice none 0 0)).toArray) 513 2328 Tryd.underlying35 hix hx0 hx1 hx2 (by simp [Value.cells, docZ_len]) (by decide) (.slice sx S.length sc) S.length ((xss S).flatMap (docM g.u)) rfl hrow ⟨w5.heap.size, 0, none⟩ 1 1 (docM g.u m) rfl (by rw [hlen]) (news_arr (Arr.new w5 _ _)) (doc_one HUC.out _ _) (by unfold maxLen; omega) (by omega) (by simp; omega) ?_
                    intro v6 w6 hr6 hg6 hf6
                    have HQ7 := Lib.hid (QX.app6 HQ6.out (by rw [show (xss S).length = S.length from xss_len S]; exact hr6) hg6 hf6)
                    have HQ := Lib.hid (show QX w w6 g ⟨k, q', m, m, v5, xks (⟨q', m, mk⟩ :: S), v6, xss (⟨q', m, mk⟩ :: S), X, _⟩ from by rw [xks_push, xss_push]; exact HQ7.out)
                    have HCH := Lib.hid (show XChn g.b k q' (⟨q', m, mk⟩ :: S) from ⟨Hist.refl _, HM.out.1, HGM.out, HK.out.2.1.hist HM.out.2⟩)
                    clear hr6 hg6 hf6 HQ7 hrow HQ6 hA hlen HQ5
                    refine wpList_as rfl _ rfl ?_
                    refine wpList_nil ?_
                    simp only [Act.put, Act.eval]
                    go_wp2
                    go_meet
                    exact ⟨k, q', m, _, _, ⟨q', m, mk⟩ :: S, rfl, rfl, Lib.hid ⟨HQ.out, by have := HK.out.1; omega, HCH.out, by have := HK.out.2.2; simp <;> omega⟩⟩
                · by_cases h7 : x0 = 7
                  · subst h7
                    as_aux_lemma =>
                      cases S with
                      | nil =>
                        have HQ6 := HQ
                        clear HQ
                        go_wp2
                        go_roundw
                        case rel => first | exact ⟨i + 1, k, q, m, _, _, [], _, _, by omega, by omega, by go_num, rfl, rfl, Lib.hid ⟨HQ6.out.rest, by have := HK.out.1; omega, HK.out.2.1, by simp⟩⟩ | ((repeat apply Exists.intro); exact ⟨⟨i + 1, k, q, m, _, _, [], _, _, by omega, by omega, by go_num, rfl, rfl, Lib.hid ⟨HQ6.out.rest, by have := HK.out.1; omega, HK.out.2.1, by simp⟩⟩, rfl⟩)
                        case measure => simp [intOf]; omega
                      | cons e r =>
                        obtain ⟨qe, me, xe⟩ := e
                        have hch := HK.out.2.1
                        have HGM := Lib.hid hch.2.2.1
                        have HALL := Lib.hid (xss_good hch)
                        have HCH := Lib.hid (show IMark g.b k qe me xe ∧ XChn g.b k qe r from ⟨hch.2.1, hch.2.2.2⟩)
                        have HQ1 := Lib.hid (HQ.out.hist hch.1)
                        obtain ⟨n, hn⟩ : ∃ n, r.length = n := ⟨_, rfl⟩
                        have hlen : (⟨qe, me, xe⟩ :: r : List XE).length = n + 1 := by rw [List.length_cons, hn]
                        rw [hlen] at HQ1 hsl ⊢
                        have hks : xks (⟨qe, me, xe⟩ :: r) = xks r ++ [xe] := xks_push _ _
                        have hps : xss (⟨qe, me, xe⟩ :: r) = xss r ++ [me] := xss_push _ _
                        have hkl : (xks r).length = n := by rw [xks_len, hn]
                        have hpl : (xss r).length = n := by rw [xss_len, hn]
                        have hkl1 : (xks (⟨qe, me, xe⟩ :: r)).length = n + 1 := by rw [hks]; simp [hkl]
                        have hpl1 : (xss (⟨qe, me, xe⟩ :: r)).length = n + 1 := by rw [hps]; simp [hpl]
                        have hmk := HQ1.out.marks
                        have hmk1 : wa.ownsRow w.heap.size 3 1 (.slice kx (n + 1) kc) (n + 1) ((xks (⟨qe, me, xe⟩ :: r)).map (Value.int .i64)) := by
                          have := hmk; unfold IRow at this; rw [hkl1] at this; exact this
                        have hss1 : wa.ownsRow w.heap.size 33 513 (.slice sx (n + 1) sc) (n + 1) ((xss (⟨qe, me, xe⟩ :: r)).flatMap (docM g.u)) := by
                          have := HQ1.out.saved; rw [hpl1] at this; exact this
                        obtain ⟨Gk, ck, hGk, hcap5, _⟩ := own_cell hmk1 (j := 0) (by omega)
                        injection hGk with hG1 _ hG3
                        subst hG1 hG3
                        obtain ⟨Gs, cs', hGs, hcap6, _⟩ := own_cell hss1 (j := 0) (by omega)
                        injection hGs with hG1 _ hG3
                        subst hG1 hG3
                        have cmk : wa.cell? ⟨Gk, n, none⟩ = some (.int .i64 xe) := by
                          have : wa.cell? ⟨Gk, n, none⟩ = some (.int .i64 ((xks (⟨qe, me, xe⟩ :: r)).getD n 0)) := IRow.cell hmk (j := n) (Nat.lt_of_lt_of_eq (Nat.lt_succ_self n) hkl1.symm)
                          rw [hks, show (xks r ++ [xe]).getD n 0 = xe by simp [List.getD_eq_getElem?_getD, hkl]] at this
                          exact this
                        have hm0 : ((n + 1 : Nat) : Int) = (n : Int) + 1 := by omega
                        have hm1 : (n : Int) + 1 - 1 = n := by omega
                        have hm2 : ((n : Int) + 1 == 0) = false := by simp <;> omega
                        have hm3 : (0 : Int) ≤ n := by omega
                        have hm4 : (n : Int) < (n : Int) + 1 := by omega
                        have hm5 : (n : Int) ≤ kc := by omega
                        have hm6 : (n : Int) ≤ sc := by omega
                        have HKP := Lib.hid (And.intro hks (And.intro hps (And.intro hkl (And.intro hpl (And.intro hkl1 (And.intro hpl1 hn))))))
                        have hdl := docM_len (u := g.u) HGM.out
                        clear hch hks hps hkl hpl hkl1 hpl1 hmk hmk1 hss1 hn hlen HQ hcap5 hcap6
                        go_wp2_with fail
                        refine (x_back HQ1.out (show k ≤ 1000000000 by omega) HCH.out.1 HGM.out).mono ?_
                        rintro e w4 ⟨rfl, hN⟩
                        have HQ4 := Lib.hid hN
                        clear HQ1 cmk
                        have hld : ∀ j v, (docM g.u me)[j]? = some v → w4.cell? ((⟨Gs, n * 513, none⟩ : Addr).add j) = some v := by
                          have hk := QX.kept hN (m := n) HALL.out (by show n < (xss _).length; rw [HKP.out.2.2.2.2.2.1]; omega) rfl
                          have h1 : (xss (⟨qe, me, xe⟩ :: r)).getD n m = me := by rw [HKP.out.2.1]; simp [List.getD_eq_getElem?_getD, HKP.out.2.2.2.1]
                          have hk' : ∀ j v, (docM g.u ((xss (⟨qe, me, xe⟩ :: r)).getD n m))[j]? = some v → w4.cell? ((⟨Gs, n * 513, none⟩ : Addr).add j) = some v := hk
                          rw [h1] at hk'
                          exact hk'
                        have hD : Arr w4 g.D 33 (docM g.u m) := hN.doc.2
                        have hdl2 := docM_len (u := g.u) hN.2.1
                        have HLD := Lib.hid (And.intro hld (And.intro hD hdl2))
                        have HQ5 := Lib.hid (hN.again HGM.out)
                        clear hN HQ4 hld hD hdl2
                        go_wp2_with fail
                        rename_i K hK
                        refine wp_load_cells 33 (.tmp 106) rfl ⟨Gs, n * 513, none⟩ rfl (docM g.u me) _ Tryd.underlying33 rfl (by rw [sizeD, hdl]) HLD.out.1 (hK _ _ ?_)
                        refine wpList_store_row rfl 33 (.tmp 8) (.tmp 107) rfl g.D (docM g.u me).toArray rfl rfl 33 (docM g.u m).toArray HLD.out.2.1 (by rw [sizeD]; simp [hdl]) (by simp [hdl]; exact HLD.out.2.2) (Array.all_eq_true_iff_forall_mem.2 fun v hv => doc_one HUC.out _ _ v (List.mem_toArray.1 hv)) ?_
                        refine wpList_nil ?_
                        simp only [Act.put]
                        go_wp2
                        have HQ := Lib.hid (show QX w (w4.setRow g.D (docM g.u me).toArray) g ⟨k, qe, me, me, .slice (some ⟨Gk, 0, none⟩) n kc, xks r, .slice (some ⟨Gs, 0, none⟩) n sc, xss r, X, _⟩ from by
                          have h5 := (HQ5.out.cut5 (m := n) (by show (xks _).length = _; exact HKP.out.2.2.2.2.1) rfl).cut6 (m := n) HALL.out (by show (xss _).length = _; exact HKP.out.2.2.2.2.2.1) rfl
                          have e5 : (xks (⟨qe, me, xe⟩ :: r)).take n = xks r := by rw [HKP.out.1, List.take_append_of_le_length (by rw [HKP.out.2.2.1]; exact Nat.le_refl _), List.take_of_length_le (by rw [HKP.out.2.2.1]; exact Nat.le_refl _)]
                          have e6 : (xss (⟨qe, me, xe⟩ :: r)).take n = xss r := by rw [HKP.out.2.1, List.take_append_of_le_length (by rw [HKP.out.2.2.2.1]; exact Nat.le_refl _), List.take_of_length_le (by rw [HKP.out.2.2.2.1]; exact Nat.le_refl _)]
                          rw [← e5, ← e6]; exact h5)
                        clear HLD HQ5
                        go_meet
                        exact ⟨k, qe, me, _, _, r, rfl, rfl, Lib.hid ⟨HQ.out, by have := HK.out.1; omega, HCH.out.2, by have := HKP.out.2.2.2.2.2.2; have := HK.out.2.2; simp at this; omega⟩⟩
                  · skip
                    as_aux_lemma =>
                      go_wp2_with (first | (go_at_call 18; refine (x_put HQ.out (show k ≤ 700000000 by omega) x1 x2).mono ?_; rintro e w5 ⟨rfl, hN⟩; have HN := Lib.hid hN; have d1 : w5.cell? ⟨X, 1, none⟩ = some (.int .i64 x1) := hN.box.cell 1; have d2 : w5.cell? ⟨X, 2, none⟩ = some (.int .i64 x2) := hN.box.cell 2; clear hN) | (go_at_call 19; refine (d_put HN.out x1 x2).mono ?_; rintro e w6 ⟨rfl, hM⟩; have HM := Lib.hid hM; clear hM))
                      go_meet
                      exact ⟨k + 60, q, putI g.b.abs x1 x2 m, _, _, S, rfl, rfl, Lib.hid ⟨HM.out, by have := HK.out.1; omega, HK.out.2.1.mono (by omega), by have := HK.out.2.2; omega⟩⟩
        case rest =>
          obtain ⟨k', q', m', kv', sv', S', rfl, rfl, hX⟩ := hcut
          have HQ := Lib.hid hX.out.1
          have HK' := Lib.hid hX.out.2
          clear hX c0 c1 c2 HK
          as_aux_lemma =>
            obtain ⟨cx, hcx⟩ : ∃ c, cardI x1 m' = c := ⟨_, rfl⟩
            obtain ⟨er, her⟩ : ∃ c, x1.tmod 8 = c := ⟨_, rfl⟩
            obtain ⟨S1, hS1⟩ : ∃ c, m'.Z 0 = c := ⟨_, rfl⟩
            obtain ⟨S2, hS2⟩ : ∃ c, havingI x2 er m' = c := ⟨_, rfl⟩
            have HW8 := Lib.hid (show wf2 x2 er from her ▸ wf_rem HWF.out.2)
            have HWS1 := Lib.hid (show wfB S1 from hS1 ▸ HQ.out.1.wf 0 (by omega))
            have HWS2 := Lib.hid (show wfB S2 from hS2 ▸ wf_having HQ.out.1 x2 er)
            go_upto_region 33 with fail
            refine wp_gen fun a0 w0 ha0 hw0 => ?_
            subst hw0
            have z : a0.tmps.size = 169 := by rw [ha0]; rfl
            have e7 : a0.tmps[7]? = some (.pointer (some ⟨g.b.X, 0, none⟩)) := by rw [ha0]; rfl
            have e8 : a0.tmps[8]? = some (.pointer (some ⟨g.D, 0, none⟩)) := by rw [ha0]; rfl
            have e12 : a0.tmps[12]? = some (.pointer (some ⟨X, 0, none⟩)) := by rw [ha0]; rfl
            have HA0 := Lib.hid ha0
            have hS0 := HQ.out
            clear ha0 HQ
            refine wp_region_typed 34 DX33 [] [] (fun k_ v_ w_ => ((TLX33 g.b.X X x1 x2 er cx S1 S2).getD k_ .any).ok v_ w_) (fun w w' => Below w.heap.size w w') (fun _ w_ => QX w w_ g ⟨k', q', m', m', _, xks S', _, xss S', X, [.int .i64 x0, .int .i64 x1, .int .i64 x2]⟩) (by kernel_rfl) (by kernel_rfl) (by kernel_rfl) (by kernel_rfl) (by rw [z]; kernel_rfl) (by kernel_rfl) (by kernel_rfl) (fun _ _ _ _ h hr => TyX.mono _ _ _ _ h hr) (fun _ h => hS0.first h) (steps_of ?_) ?_
            · clear hS0
              refine steps_cons (not_ch (by kernel_rfl) fun _n act w K hS hd ham hdep hK => ?_) ?_
              · skip
                have h7 := (ham 7 (by kernel_rfl)).trans e7
                have HK := Lib.hid (fun v_ w_ (h1_ : _) (h2_ : _) (h3_ : _) => hK v_ w_ h1_ h2_ h3_ (fun h_ => absurd h_ (by decide)))
                have HS := Lib.hid hS
                clear hK ham hdep hS hd
                refine go_plain rfl ?_
                go_simp
                exact HK.out _ w (Below.refl _ _) HS.out rfl
              refine steps_cons (not_ch (by kernel_rfl) fun _n act w K hS hd ham hdep hK => ?_) ?_
              · skip
                have h12 := (ham 12 (by kernel_rfl)).trans e12
                have HK := Lib.hid (fun v_ w_ (h1_ : _) (h2_ : _) (h3_ : _) => hK v_ w_ h1_ h2_ h3_ (fun h_ => absurd h_ (by decide)))
                have HS := Lib.hid hS
                clear hK ham hdep hS hd
                refine go_plain rfl ?_
                go_simp
                exact HK.out _ w (Below.refl _ _) HS.out rfl
              refine steps_cons (not_ch (by kernel_rfl) fun _n act w K hS hd ham hdep hK => ?_) ?_
              · skip
                obtain ⟨x117, h117, t117⟩ := hdep ⟨1, .data⟩ (by simp) rfl 117 rfl
                rw [show x117 = .pointer (some ⟨X, 1, none⟩) from t117] at h117
                clear t117
                have HK := Lib.hid (fun v_ w_ (h1_ : _) (h2_ : _) (h3_ : _) => hK v_ w_ h1_ h2_ h3_ (fun h_ => absurd h_ (by decide)))
                have HS := Lib.hid hS
                clear hK ham hdep hS hd
                refine go_plain rfl ?_
                have cl_ : w.cell? ⟨X, 1, none⟩ = some (.int .i64 x1) := HS.out.box.cell 1
                go_simp
                exact HK.out _ w (Below.refl _ _) HS.out rfl
              refine steps_cons (not_ch (by kernel_rfl) fun _n act w K hS hd ham hdep hK => ?_) ?_
              · skip
                obtain ⟨x116, h116, t116⟩ := hdep ⟨0, .data⟩ (by simp) rfl 116 rfl
                rw [show x116 = .pointer (some ⟨g.b.X, 0, none⟩) from t116] at h116
                clear t116
                obtain ⟨x118, h118, t118⟩ := hdep ⟨2, .data⟩ (by simp) rfl 118 rfl
                rw [show x118 = .int .i64 x1 from t118] at h118
                clear t118
                have HK := Lib.hid (fun v_ w_ (h1_ : _) (h2_ : _) (h3_ : _) => hK v_ w_ h1_ h2_ h3_ (fun h_ => absurd h_ (by decide)))
                have HS := Lib.hid hS
                clear hK ham hdep hS hd
                refine go_plain rfl ?_
                go_simp
                refine (x_card HS.out x1).mono ?_
                rintro e w' ⟨rfl, hb⟩
                exact HK.out _ w' hb (HS.out.below hb) (congrArg (Value.int .i64) hcx)
              refine steps_cons (not_ch (by kernel_rfl) fun _n act w K hS hd ham hdep hK => ?_) ?_
              · skip
                have h12 := (ham 12 (by kernel_rfl)).trans e12
                have HK := Lib.hid (fun v_ w_ (h1_ : _) (h2_ : _) (h3_ : _) => hK v_ w_ h1_ h2_ h3_ (fun h_ => absurd h_ (by decide)))
                have HS := Lib.hid hS
                clear hK ham hdep hS hd
                refine go_plain rfl ?_
                go_simp
                exact HK.out _ w (Below.refl _ _) HS.out rfl
              refine steps_cons (not_ch (by kernel_rfl) fun _n act w K hS hd ham hdep hK => ?_) ?_
              · skip
                obtain ⟨x120, h120, t120⟩ := hdep ⟨4, .data⟩ (by simp) rfl 120 rfl
                rw [show x120 = .pointer (some ⟨X, 1, none⟩) from t120] at h120
                clear t120
                have HK := Lib.hid (fun v_ w_ (h1_ : _) (h2_ : _) (h3_ : _) => hK v_ w_ h1_ h2_ h3_ (fun h_ => absurd h_ (by decide)))
                have HS := Lib.hid hS
                clear hK ham hdep hS hd
                refine go_plain rfl ?_
                have cl_ : w.cell? ⟨X, 1, none⟩ = some (.int .i64 x1) := HS.out.box.cell 1
                go_simp
                exact HK.out _ w (Below.refl _ _) HS.out rfl
              refine steps_cons (not_ch (by kernel_rfl) fun _n act w K hS hd ham hdep hK => ?_) ?_
              · skip
                have h8 := (ham 8 (by kernel_rfl)).trans e8
                obtain ⟨x121, h121, t121⟩ := hdep ⟨5, .data⟩ (by simp) rfl 121 rfl
                rw [show x121 = .int .i64 x1 from t121] at h121
                clear t121
                have HK := Lib.hid (fun v_ w_ (h1_ : _) (h2_ : _) (h3_ : _) => hK v_ w_ h1_ h2_ h3_ (fun h_ => absurd h_ (by decide)))
                have HS := Lib.hid hS
                clear hK ham hdep hS hd
                refine go_plain rfl ?_
                go_simp
                refine (d_card HS.out x1).mono ?_
                rintro e w' ⟨rfl, hw'⟩
                subst hw'
                exact HK.out _ w (Below.refl _ _) HS.out (congrArg (Value.int .i64) hcx)
              refine steps_cons (not_ch (by kernel_rfl) fun _n act w K hS hd ham hdep hK => ?_) ?_
              · skip
                obtain ⟨x119, h119, t119⟩ := hdep ⟨3, .data⟩ (by simp) rfl 119 rfl
                rw [show x119 = .int .i64 cx from t119] at h119
                clear t119
                obtain ⟨x122, h122, t122⟩ := hdep ⟨6, .data⟩ (by simp) rfl 122 rfl
                rw [show x122 = .int .i64 cx from t122] at h122
                clear t122
                have HK := Lib.hid (fun v_ w_ (h1_ : _) (h2_ : _) (h3_ : _) => hK v_ w_ h1_ h2_ h3_ (fun h_ => absurd h_ (by decide)))
                have HS := Lib.hid hS
                clear hK ham hdep hS hd
                refine go_plain rfl ?_
                go_simp
                exact HK.out _ w (Below.refl _ _) HS.out rfl
              refine steps_cons (not_ch (by kernel_rfl) fun _n act w K hS hd ham hdep hK => ?_) ?_
              · skip
                obtain ⟨x123, h123, t123⟩ := hdep ⟨7, .data⟩ (by simp) rfl 123 rfl
                rw [show x123 = .bool false from t123] at h123
                clear t123
                have HK := Lib.hid (fun v_ w_ (h1_ : _) (h2_ : _) (h3_ : _) => hK v_ w_ h1_ h2_ h3_ (fun h_ => absurd h_ (by decide)))
                have HS := Lib.hid hS
                clear hK ham hdep hS hd
                refine go_plain rfl ?_
                go_simp
                exact HK.out _ w (Below.refl _ _) HS.out rfl
              refine steps_cons (not_ch (by kernel_rfl) fun _n act w K hS hd ham hdep hK => ?_) ?_
              · skip
                have h7 := (ham 7 (by kernel_rfl)).trans e7
                obtain ⟨x124, h124, t124⟩ := hdep ⟨8, .guard⟩ (by simp) rfl 124 rfl
                rw [show x124 = .bool false from t124] at h124
                clear t124
                have HK := Lib.hid (fun v_ w_ (h1_ : _) (h2_ : _) (h3_ : _) => hK v_ w_ h1_ h2_ h3_ (fun h_ => absurd h_ (by decide)))
                have HS := Lib.hid hS
                clear hK ham hdep hS hd
                refine go_guard 8 124 false rfl rfl h124 ?_
                go_simp
                exact HK.out _ w (Below.refl _ _) HS.out rfl
              refine steps_cons (not_ch (by kernel_rfl) fun _n act w K hS hd ham hdep hK => ?_) ?_
              · skip
                obtain ⟨x124, h124, t124⟩ := hdep ⟨8, .chain⟩ (by simp) rfl 124 rfl
                rw [show x124 = .bool false from t124] at h124
                clear t124
                obtain ⟨x125, h125, t125⟩ := hdep ⟨9, .data⟩ (by simp) rfl 125 rfl
                rw [show x125 = .pointer (some ⟨g.b.X, 0, none⟩) from t125] at h125
                clear t125
                have HK := Lib.hid (fun v_ w_ (h1_ : _) (h2_ : _) (h3_ : _) => hK v_ w_ h1_ h2_ h3_ (fun h_ => absurd h_ (by decide)))
                have HS := Lib.hid hS
                clear hK ham hdep hS hd
                refine go_guard 8 124 false rfl rfl h124 ?_
                go_simp
                refine (x_touched HS.out).mono ?_
                rintro e w' ⟨rfl, hb⟩
                exact HK.out _ w' hb (HS.out.below hb) (congrArg svL hS1)
              refine steps_cons (not_ch (by kernel_rfl) fun _n act w K hS hd ham hdep hK => ?_) ?_
              · skip
                obtain ⟨x124, h124, t124⟩ := hdep ⟨8, .guard⟩ (by simp) rfl 124 rfl
                rw [show x124 = .bool false from t124] at h124
                clear t124
                obtain ⟨x126, h126, t126⟩ := hdep ⟨10, .data⟩ (by simp) rfl 126 rfl
                rw [show x126 = svL S1 from t126] at h126
                clear t126
                have HK := Lib.hid (fun v_ w_ (h1_ : _) (h2_ : _) (h3_ : _) => hK v_ w_ h1_ h2_ h3_ (fun h_ => absurd h_ (by decide)))
                have HS := Lib.hid hS
                clear hK ham hdep hS hd
                refine go_guard 8 124 false rfl rfl h124 ?_
                go_simp
                refine (ball_any HWS1.out w (HTT.out.1.below HTT.out.2 HS.out.bel) (Nat.lt_of_lt_of_le HTT.out.2 HS.out.bel.size)).mono ?_
                rintro e w' ⟨v, rfl, hI, hb⟩
                exact HK.out _ w' hb (HS.out.below hb) hI
              refine steps_cons (not_ch (by kernel_rfl) fun _n act w K hS hd ham hdep hK => ?_) ?_
              · skip
                have h8 := (ham 8 (by kernel_rfl)).trans e8
                obtain ⟨x124, h124, t124⟩ := hdep ⟨8, .guard⟩ (by simp) rfl 124 rfl
                rw [show x124 = .bool false from t124] at h124
                clear t124
                have HK := Lib.hid (fun v_ w_ (h1_ : _) (h2_ : _) (h3_ : _) => hK v_ w_ h1_ h2_ h3_ (fun h_ => absurd h_ (by decide)))
                have HS := Lib.hid hS
                clear hK ham hdep hS hd
                refine go_guard 8 124 false rfl rfl h124 ?_
                go_simp
                refine (d_all HS.out).mono ?_
                rintro e w' ⟨v, rfl, hI, hb⟩
                exact HK.out _ w' hb (HS.out.below hb) (ints_q hI hS1)
              refine steps_cons (not_ch (by kernel_rfl) fun _n act w K hS hd ham hdep hK => ?_) ?_
              · skip
                obtain ⟨x124, h124, t124⟩ := hdep ⟨8, .guard⟩ (by simp) rfl 124 rfl
                rw [show x124 = .bool false from t124] at h124
                clear t124
                obtain ⟨x127, h127, t127⟩ := hdep ⟨11, .data⟩ (by simp) rfl 127 rfl
                have t127 := Lib.hid t127
                obtain ⟨x128, h128, t128⟩ := hdep ⟨12, .data⟩ (by simp) rfl 128 rfl
                have t128 := Lib.hid t128
                have HK := Lib.hid (fun v_ w_ (h1_ : _) (h2_ : _) (h3_ : _) => hK v_ w_ h1_ h2_ h3_ (fun h_ => absurd h_ (by decide)))
                have HS := Lib.hid hS
                clear hK ham hdep hS hd
                refine go_guard 8 124 false rfl rfl h124 ?_
                go_simp
                refine (ints_eq _ _ _ _ w t127.out t128.out (lst_short _)).mono ?_
                rintro e w' ⟨rfl, hb⟩
                exact HK.out _ w' hb (HS.out.below hb) rfl
              refine steps_cons (not_ch (by kernel_rfl) fun _n act w K hS hd ham hdep hK => ?_) ?_
              · skip
                obtain ⟨x124, h124, t124⟩ := hdep ⟨8, .guard⟩ (by simp) rfl 124 rfl
                rw [show x124 = .bool false from t124] at h124
                clear t124
                obtain ⟨x129, h129, t129⟩ := hdep ⟨13, .data⟩ (by simp) rfl 129 rfl
                rw [show x129 = .bool true from t129] at h129
                clear t129
                have HK := Lib.hid (fun v_ w_ (h1_ : _) (h2_ : _) (h3_ : _) => hK v_ w_ h1_ h2_ h3_ (fun h_ => absurd h_ (by decide)))
                have HS := Lib.hid hS
                clear hK ham hdep hS hd
                refine go_guard 8 124 false rfl rfl h124 ?_
                go_simp
                exact HK.out _ w (Below.refl _ _) HS.out rfl
              refine steps_cons (not_ch (by kernel_rfl) fun _n act w K hS hd ham hdep hK => ?_) ?_
              · skip
                obtain ⟨x124, h124, t124⟩ := hdep ⟨8, .data⟩ (by simp) rfl 124 rfl
                rw [show x124 = .bool false from t124] at h124
                clear t124
                obtain ⟨x130, h130, t130⟩ := hdep ⟨14, .data⟩ (by simp) rfl 130 rfl
                rw [show x130 = .bool false from t130] at h130
                clear t130
                have HK := Lib.hid (fun v_ w_ (h1_ : _) (h2_ : _) (h3_ : _) => hK v_ w_ h1_ h2_ h3_ (fun h_ => absurd h_ (by decide)))
                have HS := Lib.hid hS
                clear hK ham hdep hS hd
                refine go_plain rfl ?_
                go_simp
                exact HK.out _ w (Below.refl _ _) HS.out rfl
              refine steps_cons (not_ch (by kernel_rfl) fun _n act w K hS hd ham hdep hK => ?_) ?_
              · skip
                obtain ⟨x131, h131, t131⟩ := hdep ⟨15, .data⟩ (by simp) rfl 131 rfl
                rw [show x131 = .bool false from t131] at h131
                clear t131
                have HK := Lib.hid (fun v_ w_ (h1_ : _) (h2_ : _) (h3_ : _) => hK v_ w_ h1_ h2_ h3_ (fun h_ => absurd h_ (by decide)))
                have HS := Lib.hid hS
                clear hK ham hdep hS hd
                refine go_plain rfl ?_
                go_simp
                exact HK.out _ w (Below.refl _ _) HS.out rfl
              refine steps_cons (not_ch (by kernel_rfl) fun _n act w K hS hd ham hdep hK => ?_) ?_
              · skip
                have h7 := (ham 7 (by kernel_rfl)).trans e7
                obtain ⟨x132, h132, t132⟩ := hdep ⟨16, .guard⟩ (by simp) rfl 132 rfl
                rw [show x132 = .bool false from t132] at h132
                clear t132
                have HK := Lib.hid (fun v_ w_ (h1_ : _) (h2_ : _) (h3_ : _) => hK v_ w_ h1_ h2_ h3_ (fun h_ => absurd h_ (by decide)))
                have HS := Lib.hid hS
                clear hK ham hdep hS hd
                refine go_guard 16 132 false rfl rfl h132 ?_
                go_simp
                exact HK.out _ w (Below.refl _ _) HS.out rfl
              refine steps_cons (not_ch (by kernel_rfl) fun _n act w K hS hd ham hdep hK => ?_) ?_
              · skip
                have h12 := (ham 12 (by kernel_rfl)).trans e12
                obtain ⟨x132, h132, t132⟩ := hdep ⟨16, .guard⟩ (by simp) rfl 132 rfl
                rw [show x132 = .bool false from t132] at h132
                clear t132
                have HK := Lib.hid (fun v_ w_ (h1_ : _) (h2_ : _) (h3_ : _) => hK v_ w_ h1_ h2_ h3_ (fun h_ => absurd h_ (by decide)))
                have HS := Lib.hid hS
                clear hK ham hdep hS hd
                refine go_guard 16 132 false rfl rfl h132 ?_
                go_simp
                exact HK.out _ w (Below.refl _ _) HS.out rfl
              refine steps_cons (not_ch (by kernel_rfl) fun _n act w K hS hd ham hdep hK => ?_) ?_
              · skip
                obtain ⟨x132, h132, t132⟩ := hdep ⟨16, .guard⟩ (by simp) rfl 132 rfl
                rw [show x132 = .bool false from t132] at h132
                clear t132
                obtain ⟨x134, h134, t134⟩ := hdep ⟨18, .data⟩ (by simp) rfl 134 rfl
                rw [show x134 = .pointer (some ⟨X, 2, none⟩) from t134] at h134
                clear t134
                have HK := Lib.hid (fun v_ w_ (h1_ : _) (h2_ : _) (h3_ : _) => hK v_ w_ h1_ h2_ h3_ (fun h_ => absurd h_ (by decide)))
                have HS := Lib.hid hS
                clear hK ham hdep hS hd
                refine go_guard 16 132 false rfl rfl h132 ?_
                have cl_ : w.cell? ⟨X, 2, none⟩ = some (.int .i64 x2) := HS.out.box.cell 2
                go_simp
                exact HK.out _ w (Below.refl _ _) HS.out rfl
              refine steps_cons (not_ch (by kernel_rfl) fun _n act w K hS hd ham hdep hK => ?_) ?_
              · skip
                have h12 := (ham 12 (by kernel_rfl)).trans e12
                obtain ⟨x132, h132, t132⟩ := hdep ⟨16, .guard⟩ (by simp) rfl 132 rfl
                rw [show x132 = .bool false from t132] at h132
                clear t132
                have HK := Lib.hid (fun v_ w_ (h1_ : _) (h2_ : _) (h3_ : _) => hK v_ w_ h1_ h2_ h3_ (fun h_ => absurd h_ (by decide)))
                have HS := Lib.hid hS
                clear hK ham hdep hS hd
                refine go_guard 16 132 false rfl rfl h132 ?_
                go_simp
                exact HK.out _ w (Below.refl _ _) HS.out rfl
              refine steps_cons (not_ch (by kernel_rfl) fun _n act w K hS hd ham hdep hK => ?_) ?_
              · skip
                obtain ⟨x132, h132, t132⟩ := hdep ⟨16, .guard⟩ (by simp) rfl 132 rfl
                rw [show x132 = .bool false from t132] at h132
                clear t132
                obtain ⟨x136, h136, t136⟩ := hdep ⟨20, .data⟩ (by simp) rfl 136 rfl
                rw [show x136 = .pointer (some ⟨X, 1, none⟩) from t136] at h136
                clear t136
                have HK := Lib.hid (fun v_ w_ (h1_ : _) (h2_ : _) (h3_ : _) => hK v_ w_ h1_ h2_ h3_ (fun h_ => absurd h_ (by decide)))
                have HS := Lib.hid hS
                clear hK ham hdep hS hd
                refine go_guard 16 132 false rfl rfl h132 ?_
                have cl_ : w.cell? ⟨X, 1, none⟩ = some (.int .i64 x1) := HS.out.box.cell 1
                go_simp
                exact HK.out _ w (Below.refl _ _) HS.out rfl
              refine steps_cons (not_ch (by kernel_rfl) fun _n act w K hS hd ham hdep hK => ?_) ?_
              · skip
                obtain ⟨x132, h132, t132⟩ := hdep ⟨16, .guard⟩ (by simp) rfl 132 rfl
                rw [show x132 = .bool false from t132] at h132
                clear t132
                obtain ⟨x137, h137, t137⟩ := hdep ⟨21, .data⟩ (by simp) rfl 137 rfl
                rw [show x137 = .int .i64 x1 from t137] at h137
                clear t137
                have HK := Lib.hid (fun v_ w_ (h1_ : _) (h2_ : _) (h3_ : _) => hK v_ w_ h1_ h2_ h3_ (fun h_ => absurd h_ (by decide)))
                have HS := Lib.hid hS
                clear hK ham hdep hS hd
                refine go_guard 16 132 false rfl rfl h132 ?_
                go_simp
                exact HK.out _ w (Below.refl _ _) HS.out rfl
              refine steps_cons (not_ch (by kernel_rfl) fun _n act w K hS hd ham hdep hK => ?_) ?_
              · skip
                obtain ⟨x132, h132, t132⟩ := hdep ⟨16, .chain⟩ (by simp) rfl 132 rfl
                rw [show x132 = .bool false from t132] at h132
                clear t132
                obtain ⟨x133, h133, t133⟩ := hdep ⟨17, .data⟩ (by simp) rfl 133 rfl
                rw [show x133 = .pointer (some ⟨g.b.X, 0, none⟩) from t133] at h133
                clear t133
                obtain ⟨x135, h135, t135⟩ := hdep ⟨19, .data⟩ (by simp) rfl 135 rfl
                rw [show x135 = .int .i64 x2 from t135] at h135
                clear t135
                obtain ⟨x138, h138, t138⟩ := hdep ⟨22, .data⟩ (by simp) rfl 138 rfl
                rw [show x138 = .int .i64 er from t138] at h138
                clear t138
                have HK := Lib.hid (fun v_ w_ (h1_ : _) (h2_ : _) (h3_ : _) => hK v_ w_ h1_ h2_ h3_ (fun h_ => absurd h_ (by decide)))
                have HS := Lib.hid hS
                clear hK ham hdep hS hd
                refine go_guard 16 132 false rfl rfl h132 ?_
                go_simp
                refine (x_having HS.out x2 er HW8.out).mono ?_
                rintro e w' ⟨rfl, hb⟩
                exact HK.out _ w' hb (HS.out.below hb) (congrArg svL hS2)
              refine steps_cons (not_ch (by kernel_rfl) fun _n act w K hS hd ham hdep hK => ?_) ?_
              · skip
                obtain ⟨x132, h132, t132⟩ := hdep ⟨16, .guard⟩ (by simp) rfl 132 rfl
                rw [show x132 = .bool false from t132] at h132
                clear t132
                obtain ⟨x139, h139, t139⟩ := hdep ⟨23, .data⟩ (by simp) rfl 139 rfl
                rw [show x139 = svL S2 from t139] at h139
                clear t139
                have HK := Lib.hid (fun v_ w_ (h1_ : _) (h2_ : _) (h3_ : _) => hK v_ w_ h1_ h2_ h3_ (fun h_ => absurd h_ (by decide)))
                have HS := Lib.hid hS
                clear hK ham hdep hS hd
                refine go_guard 16 132 false rfl rfl h132 ?_
                go_simp
                refine (ball_any HWS2.out w (HTT.out.1.below HTT.out.2 HS.out.bel) (Nat.lt_of_lt_of_le HTT.out.2 HS.out.bel.size)).mono ?_
                rintro e w' ⟨v, rfl, hI, hb⟩
                exact HK.out _ w' hb (HS.out.below hb) hI
              refine steps_cons (not_ch (by kernel_rfl) fun _n act w K hS hd ham hdep hK => ?_) ?_
              · skip
                have h12 := (ham 12 (by kernel_rfl)).trans e12
                obtain ⟨x132, h132, t132⟩ := hdep ⟨16, .guard⟩ (by simp) rfl 132 rfl
                rw [show x132 = .bool false from t132] at h132
                clear t132
                have HK := Lib.hid (fun v_ w_ (h1_ : _) (h2_ : _) (h3_ : _) => hK v_ w_ h1_ h2_ h3_ (fun h_ => absurd h_ (by decide)))
                have HS := Lib.hid hS
                clear hK ham hdep hS hd
                refine go_guard 16 132 false rfl rfl h132 ?_
                go_simp
                exact HK.out _ w (Below.refl _ _) HS.out rfl
              refine steps_cons (not_ch (by kernel_rfl) fun _n act w K hS hd ham hdep hK => ?_) ?_
              · skip
                obtain ⟨x132, h132, t132⟩ := hdep ⟨16, .guard⟩ (by simp) rfl 132 rfl
                rw [show x132 = .bool false from t132] at h132
                clear t132
                obtain ⟨x141, h141, t141⟩ := hdep ⟨25, .data⟩ (by simp) rfl 141 rfl
                rw [show x141 = .pointer (some ⟨X, 2, none⟩) from t141] at h141
                clear t141
                have HK := Lib.hid (fun v_ w_ (h1_ : _) (h2_ : _) (h3_ : _) => hK v_ w_ h1_ h2_ h3_ (fun h_ => absurd h_ (by decide)))
                have HS := Lib.hid hS
                clear hK ham hdep hS hd
                refine go_guard 16 132 false rfl rfl h132 ?_
                have cl_ : w.cell? ⟨X, 2, none⟩ = some (.int .i64 x2) := HS.out.box.cell 2
                go_simp
                exact HK.out _ w (Below.refl _ _) HS.out rfl
              refine steps_cons (not_ch (by kernel_rfl) fun _n act w K hS hd ham hdep hK => ?_) ?_
              · skip
                have h12 := (ham 12 (by kernel_rfl)).trans e12
                obtain ⟨x132, h132, t132⟩ := hdep ⟨16, .guard⟩ (by simp) rfl 132 rfl
                rw [show x132 = .bool false from t132] at h132
                clear t132
                have HK := Lib.hid (fun v_ w_ (h1_ : _) (h2_ : _) (h3_ : _) => hK v_ w_ h1_ h2_ h3_ (fun h_ => absurd h_ (by decide)))
                have HS := Lib.hid hS
                clear hK ham hdep hS hd
                refine go_guard 16 132 false rfl rfl h132 ?_
                go_simp
                exact HK.out _ w (Below.refl _ _) HS.out rfl
              refine steps_cons (not_ch (by kernel_rfl) fun _n act w K hS hd ham hdep hK => ?_) ?_
              · skip
                obtain ⟨x132, h132, t132⟩ := hdep ⟨16, .guard⟩ (by simp) rfl 132 rfl
                rw [show x132 = .bool false from t132] at h132
                clear t132
                obtain ⟨x143, h143, t143⟩ := hdep ⟨27, .data⟩ (by simp) rfl 143 rfl
                rw [show x143 = .pointer (some ⟨X, 1, none⟩) from t143] at h143
                clear t143
                have HK := Lib.hid (fun v_ w_ (h1_ : _) (h2_ : _) (h3_ : _) => hK v_ w_ h1_ h2_ h3_ (fun h_ => absurd h_ (by decide)))
                have HS := Lib.hid hS
                clear hK ham hdep hS hd
                refine go_guard 16 132 false rfl rfl h132 ?_
                have cl_ : w.cell? ⟨X, 1, none⟩ = some (.int .i64 x1) := HS.out.box.cell 1
                go_simp
                exact HK.out _ w (Below.refl _ _) HS.out rfl
              refine steps_cons (not_ch (by kernel_rfl) fun _n act w K hS hd ham hdep hK => ?_) ?_
              · skip
                obtain ⟨x132, h132, t132⟩ := hdep ⟨16, .guard⟩ (by simp) rfl 132 rfl
                rw [show x132 = .bool false from t132] at h132
                clear t132
                obtain ⟨x144, h144, t144⟩ := hdep ⟨28, .data⟩ (by simp) rfl 144 rfl
                rw [show x144 = .int .i64 x1 from t144] at h144
                clear t144
                have HK := Lib.hid (fun v_ w_ (h1_ : _) (h2_ : _) (h3_ : _) => hK v_ w_ h1_ h2_ h3_ (fun h_ => absurd h_ (by decide)))
                have HS := Lib.hid hS
                clear hK ham hdep hS hd
                refine go_guard 16 132 false rfl rfl h132 ?_
                go_simp
                exact HK.out _ w (Below.refl _ _) HS.out rfl
              refine steps_cons (not_ch (by kernel_rfl) fun _n act w K hS hd ham hdep hK => ?_) ?_
              · skip
                have h8 := (ham 8 (by kernel_rfl)).trans e8
                obtain ⟨x132, h132, t132⟩ := hdep ⟨16, .guard⟩ (by simp) rfl 132 rfl
                rw [show x132 = .bool false from t132] at h132
                clear t132
                obtain ⟨x142, h142, t142⟩ := hdep ⟨26, .data⟩ (by simp) rfl 142 rfl
                rw [show x142 = .int .i64 x2 from t142] at h142
                clear t142
                obtain ⟨x145, h145, t145⟩ := hdep ⟨29, .data⟩ (by simp) rfl 145 rfl
                rw [show x145 = .int .i64 er from t145] at h145
                clear t145
                have HK := Lib.hid (fun v_ w_ (h1_ : _) (h2_ : _) (h3_ : _) => hK v_ w_ h1_ h2_ h3_ (fun h_ => absurd h_ (by decide)))
                have HS := Lib.hid hS
                clear hK ham hdep hS hd
                refine go_guard 16 132 false rfl rfl h132 ?_
                go_simp
                refine (d_having HS.out x2 er).mono ?_
                rintro e w' ⟨v, rfl, hI, hb⟩
                exact HK.out _ w' hb (HS.out.below hb) (ints_q hI hS2)
              refine steps_cons (not_ch (by kernel_rfl) fun _n act w K hS hd ham hdep hK => ?_) ?_
              · skip
                obtain ⟨x132, h132, t132⟩ := hdep ⟨16, .guard⟩ (by simp) rfl 132 rfl
                rw [show x132 = .bool false from t132] at h132
                clear t132
                obtain ⟨x140, h140, t140⟩ := hdep ⟨24, .data⟩ (by simp) rfl 140 rfl
                have t140 := Lib.hid t140
                obtain ⟨x146, h146, t146⟩ := hdep ⟨30, .data⟩ (by simp) rfl 146 rfl
                have t146 := Lib.hid t146
                have HK := Lib.hid (fun v_ w_ (h1_ : _) (h2_ : _) (h3_ : _) => hK v_ w_ h1_ h2_ h3_ (fun h_ => absurd h_ (by decide)))
                have HS := Lib.hid hS
                clear hK ham hdep hS hd
                refine go_guard 16 132 false rfl rfl h132 ?_
                go_simp
                refine (ints_eq _ _ _ _ w t140.out t146.out (lst_short _)).mono ?_
                rintro e w' ⟨rfl, hb⟩
                exact HK.out _ w' hb (HS.out.below hb) rfl
              refine steps_cons (not_ch (by kernel_rfl) fun _n act w K hS hd ham hdep hK => ?_) ?_
              · skip
                obtain ⟨x132, h132, t132⟩ := hdep ⟨16, .guard⟩ (by simp) rfl 132 rfl
                rw [show x132 = .bool false from t132] at h132
                clear t132
                obtain ⟨x147, h147, t147⟩ := hdep ⟨31, .data⟩ (by simp) rfl 147 rfl
                rw [show x147 = .bool true from t147] at h147
                clear t147
                have HK := Lib.hid (fun v_ w_ (h1_ : _) (h2_ : _) (h3_ : _) => hK v_ w_ h1_ h2_ h3_ (fun h_ => absurd h_ (by decide)))
                have HS := Lib.hid hS
                clear hK ham hdep hS hd
                refine go_guard 16 132 false rfl rfl h132 ?_
                go_simp
                exact HK.out _ w (Below.refl _ _) HS.out rfl
              refine steps_cons (not_ch (by kernel_rfl) fun _n act w K hS hd ham hdep hK => ?_) ?_
              · skip
                obtain ⟨x132, h132, t132⟩ := hdep ⟨16, .data⟩ (by simp) rfl 132 rfl
                rw [show x132 = .bool false from t132] at h132
                clear t132
                obtain ⟨x148, h148, t148⟩ := hdep ⟨32, .data⟩ (by simp) rfl 148 rfl
                rw [show x148 = .bool false from t148] at h148
                clear t148
                have HK := Lib.hid (fun v_ w_ (h1_ : _) (h2_ : _) (h3_ : _) => hK v_ w_ h1_ h2_ h3_ (fun h_ => absurd h_ (by decide)))
                have HS := Lib.hid hS
                clear hK ham hdep hS hd
                refine go_plain rfl ?_
                go_simp
                exact HK.out _ w (Below.refl _ _) HS.out rfl
              exact steps_done 34 (by omega)
            · intro vs a1 w1 hF hty _ hS
              have hv : vs 33 = .bool false := hty 33 (by decide)
              have hlit := hF.lit (D := DX33) (by kernel_rfl) (by rw [z]; kernel_rfl) (by decide) _ rfl
              rw [HA0.out] at hlit
              have HR6 := Lib.hid hS.rest
              clear hF hty HA0 z e7 e8 e12 hS0 hS
              simp [putAll, DX33, Act.put, hv] at hlit
              subst hlit
              clear hv
              go_wp2
              go_roundw
              case rel => first | exact ⟨i + 1, k', q', m', _, _, S', _, _, by omega, by omega, by go_num, rfl, rfl, Lib.hid ⟨HR6.out, HK'.out⟩⟩ | ((repeat apply Exists.intro); exact ⟨⟨i + 1, k', q', m', _, _, S', _, _, by omega, by omega, by go_num, rfl, rfl, Lib.hid ⟨HR6.out, HK'.out⟩⟩, rfl⟩)
              case measure => simp [intOf]; omega
      · obtain rfl : i = 80 := by omega
        as_aux_lemma =>
          have HX := Lib.hid hst.out.1
          have HWZ := Lib.hid (fun (j : Nat) (ev : Int) => wf_having hst.out.1.1 (j : Int) ev)
          clear hst HL HR
          go_wp2
          go_loopw [14] (fun x14 wr1 => ∃ j : Nat, j ≤ 7 ∧ x14 = .int .i64 (j : Int) ∧ Hid (RX w wr1 g ⟨k, q, m, m, _, xks S, _, xss S, X0, xs0⟩)) (fun x _ => 7 - (intOf x).toNat)
          case atStart => exact ⟨0, by omega, rfl, HX⟩
          case round =>
            obtain ⟨j, hj, rfl, HX1⟩ := hrel
            clear HX
            obtain ⟨wa, hwa⟩ : ∃ wo : World, wo = wr := ⟨_, rfl⟩
            subst hwa
            by_cases h7 : j < 7
            · have j0 : (0 : Int) ≤ j := by omega
              have j1 : (j : Int) ≤ 6 := by omega
              go_wp2
              go_loopw [15] (fun x15 wr2 => ∃ ev : Int, -1 ≤ ev ∧ ev ≤ 8 ∧ x15 = .int .i64 ev ∧ Hid (RX w wr2 g ⟨k, q, m, m, _, xks S, _, xss S, X0, xs0⟩)) (fun x _ => (8 - intOf x).toNat)
              case atStart => exact ⟨-1, by omega, by omega, rfl, HX1⟩
              case round =>
                obtain ⟨ev, he1, he2, rfl, HY⟩ := hrel
                clear HX1
                by_cases h8 : ev ≤ 7
                · have HW2 := Lib.hid (wf_small (k := j) (e := ev) (by omega) (by omega) (by omega) (by omega))
                  have HT2 := Lib.hid (And.intro (HTT.out.1.below HTT.out.2 HY.out.bel) (Nat.lt_of_lt_of_le HTT.out.2 HY.out.bel.size))
                  go_wp2_with fail
                  refine (rx_having HY.out j ev HW2.out).mono ?_
                  rintro e w5 ⟨rfl, hb⟩
                  have HY5 := Lib.hid (HY.out.below hb)
                  have HT5 := Lib.hid (And.intro (HT2.out.1.below HT2.out.2 hb) (Nat.lt_of_lt_of_le HT2.out.2 hb.size))
                  clear hb HY HT2
                  go_wp2_with fail
                  refine (ball_any (HWZ.out j ev) w5 HT5.out.1 HT5.out.2).mono ?_
                  rintro e w6 ⟨v6, rfl, hI, hb⟩
                  have HY6 := Lib.hid (HY5.out.below hb)
                  have HI6 := Lib.hid hI
                  clear hb hI HY5 HT5
                  go_wp2_with fail
                  refine (rd_having HY6.out j ev).mono ?_
                  rintro e w7 ⟨v7, rfl, hI, hb⟩
                  have HY7 := Lib.hid (HY6.out.below hb)
                  have HI7 := Lib.hid hI
                  have HJ7 := Lib.hid (ints_on HI6.out hb)
                  clear hb hI HY6 HI6
                  go_wp2_with fail
                  refine (ints_eq _ _ _ _ w7 HJ7.out HI7.out (lst_short _)).mono ?_
                  rintro e w8 ⟨rfl, hb⟩
                  have HY8 := Lib.hid (HY7.out.below hb)
                  clear hb HY7 HI7 HJ7
                  go_wp2
                  go_roundw
                  case rel => exact ⟨ev + 1, by omega, by omega, rfl, HY8⟩
                  case measure => simp [intOf]; omega
                · obtain rfl : ev = 8 := by omega
                  go_wp2
                  go_roundw
                  case rel => exact ⟨j + 1, by omega, by go_num, HY⟩
                  case measure => simp [intOf]; omega
            · obtain rfl : j = 7 := by omega
              have HT2 := Lib.hid (And.intro (HTT.out.1.below HTT.out.2 HX1.out.bel) (Nat.lt_of_lt_of_le HTT.out.2 HX1.out.bel.size))
              have HB := Lib.hid HX1.out.bel
              clear HX1
              go_wp2_with fail
              refine (works_any _ HT2.out.1 HT2.out.2).mono ?_
              rintro e w5 ⟨rfl, hc⟩
              have HC := Lib.hid (fb_call HB.out hc)
              clear hc
              go_wp2
              go_ret
              exact ⟨rfl, HC.out⟩
    · obtain rfl : len = i := by omega
      clear hlt
      as_aux_lemma =>
        have HX := Lib.hid hst.out.1
        have HWZ := Lib.hid (fun (j : Nat) (ev : Int) => wf_having hst.out.1.1 (j : Int) ev)
        clear hst HL HR
        go_wp2
        go_loopw [14] (fun x14 wr1 => ∃ j : Nat, j ≤ 7 ∧ x14 = .int .i64 (j : Int) ∧ Hid (RX w wr1 g ⟨k, q, m, m, _, xks S, _, xss S, X0, xs0⟩)) (fun x _ => 7 - (intOf x).toNat)
        case atStart => exact ⟨0, by omega, rfl, HX⟩
        case round =>
          obtain ⟨j, hj, rfl, HX1⟩ := hrel
          clear HX
          obtain ⟨wa, hwa⟩ : ∃ wo : World, wo = wr := ⟨_, rfl⟩
          subst hwa
          by_cases h7 : j < 7
          · have j0 : (0 : Int) ≤ j := by omega
            have j1 : (j : Int) ≤ 6 := by omega
            go_wp2
            go_loopw [15] (fun x15 wr2 => ∃ ev : Int, -1 ≤ ev ∧ ev ≤ 8 ∧ x15 = .int .i64 ev ∧ Hid (RX w wr2 g ⟨k, q, m, m, _, xks S, _, xss S, X0, xs0⟩)) (fun x _ => (8 - intOf x).toNat)
            case atStart => exact ⟨-1, by omega, by omega, rfl, HX1⟩
            case round =>
              obtain ⟨ev, he1, he2, rfl, HY⟩ := hrel
              clear HX1
              by_cases h8 : ev ≤ 7
              · have HW2 := Lib.hid (wf_small (k := j) (e := ev) (by omega) (by omega) (by omega) (by omega))
                have HT2 := Lib.hid (And.intro (HTT.out.1.below HTT.out.2 HY.out.bel) (Nat.lt_of_lt_of_le HTT.out.2 HY.out.bel.size))
                go_wp2_with fail
                refine (rx_having HY.out j ev HW2.out).mono ?_
                rintro e w5 ⟨rfl, hb⟩
                have HY5 := Lib.hid (HY.out.below hb)
                have HT5 := Lib.hid (And.intro (HT2.out.1.below HT2.out.2 hb) (Nat.lt_of_lt_of_le HT2.out.2 hb.size))
                clear hb HY HT2
                go_wp2_with fail
                refine (ball_any (HWZ.out j ev) w5 HT5.out.1 HT5.out.2).mono ?_
                rintro e w6 ⟨v6, rfl, hI, hb⟩
                have HY6 := Lib.hid (HY5.out.below hb)
                have HI6 := Lib.hid hI
                clear hb hI HY5 HT5
                go_wp2_with fail
                refine (rd_having HY6.out j ev).mono ?_
                rintro e w7 ⟨v7, rfl, hI, hb⟩
                have HY7 := Lib.hid (HY6.out.below hb)
                have HI7 := Lib.hid hI
                have HJ7 := Lib.hid (ints_on HI6.out hb)
                clear hb hI HY6 HI6
                go_wp2_with fail
                refine (ints_eq _ _ _ _ w7 HJ7.out HI7.out (lst_short _)).mono ?_
                rintro e w8 ⟨rfl, hb⟩
                have HY8 := Lib.hid (HY7.out.below hb)
                clear hb HY7 HI7 HJ7
                go_wp2
                go_roundw
                case rel => exact ⟨ev + 1, by omega, by omega, rfl, HY8⟩
                case measure => simp [intOf]; omega
              · obtain rfl : ev = 8 := by omega
                go_wp2
                go_roundw
                case rel => exact ⟨j + 1, by omega, by go_num, HY⟩
                case measure => simp [intOf]; omega
          · obtain rfl : j = 7 := by omega
            have HT2 := Lib.hid (And.intro (HTT.out.1.below HTT.out.2 HX1.out.bel) (Nat.lt_of_lt_of_le HTT.out.2 HX1.out.bel.size))
            have HB := Lib.hid HX1.out.bel
            clear HX1
            go_wp2_with fail
            refine (works_any _ HT2.out.1 HT2.out.2).mono ?_
            rintro e w5 ⟨rfl, hc⟩
            have HC := Lib.hid (fb_call HB.out hc)
            clear hc
            go_wp2
            go_ret
            exact ⟨rfl, HC.out⟩
end Go.Proofs.YtcgadmeagbcbnaaDoor
