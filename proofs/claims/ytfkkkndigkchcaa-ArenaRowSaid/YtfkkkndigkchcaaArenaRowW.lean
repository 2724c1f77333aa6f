/- The walk of ArenaRow. No condition. -/
import Derived.Test.YtfkkkndigkchcaaArenaRowS
import Derived.Test.YtfkkkndigkchcaaTrailV
import Derived.Test.YtfkkkndigkchcaaTrailCells
namespace Go.Proofs.Ytfkkkndigkchcaa
open Go.ChangeShapes Go.WideShapes Go.ChangeAt Go.RowKit
attribute [local irreducible] Calls

set_option maxRecDepth 100000 in
set_option maxHeartbeats 4000000 in
theorem arenaRow_walk (a : Option Addr) (len cap : Nat) (F : Nat → Int) (w : World) (hR : Nums w w.heap.size .u8 (.slice a len cap) len F) (hl : (len : Int) ≤ 9223372036854775807) :
    Calls Try.prog 12 #[.slice a len cap] w fun e w' => e = .returned (.bool true) ∧ Below w.heap.size w w' := by
  have HR := Lib.hid hR
  clear hR
  obtain ⟨i0, hi, hz0, hz1, hz2⟩ := info_parts infoI
  go_enter Try.func12, Try.ntmps12
  go_wp2_with fail
  refine (aworks_any w).mono ?_
  rintro e wa ⟨rfl, hba⟩
  go_wp2_with fail
  refine (tr_new wa).mono ?_
  rintro e w0 ⟨rfl, hT0⟩
  obtain ⟨T, hT⟩ : ∃ T, wa.heap.size = T := ⟨_, rfl⟩
  have HT := Lib.hid (hT0 w hba).1
  rw [hT] at HT ⊢
  clear hT0 hT hba
  go_wp2_with fail
  refine (as_start (col := fun _ => 1) (c := 1) w 20 (by decide) (by decide) w0 HT.out (fun _ _ => rfl)).mono ?_
  rintro e w1 ⟨A, Bb, Ba, q, rfl, hN, _⟩
  have HD := Lib.hid (show RowSt w w1 A T [] [] 0 0 (.slice none 0 0) [] from ⟨_, Bb, Ba, q, _, hN.1, rm_new, RowC.nil _ _ _ _ _ _⟩)
  clear hN HT
  go_wp2
  go_loopw [4] (fun x wr => ∃ i : Nat, i ≤ 16 ∧ x = .int .i64 i ∧ Hid (RowSt w wr A T [] [] i i (.slice none 0 0) [])) (fun x _ => 16 - (intOf x).toNat)
  case atStart => exact ⟨0, by omega, rfl, HD⟩
  case round =>
    obtain ⟨i, hi16, rfl, hst⟩ := hrel
    by_cases hlt : i < 16
    · have hc := Lib.hid (rs_fresh hst.out (by omega) (by omega) (by simp))
      clear hst
      go_wp2_with (go_at_call 62; refine hc.out.mono ?_; rintro e w2 ⟨rfl, hN⟩)
      go_roundw
      case rel => exact ⟨i + 1, by omega, by go_num, Lib.hid hN⟩
      case measure => simp [intOf]; omega
    · obtain rfl : i = 16 := by omega
      have HD2 := Lib.hid hst.out
      clear hst HD
      obtain ⟨wo, rfl⟩ : ∃ wo : World, wo = wr := ⟨_, rfl⟩
      go_wp2
      go_loopw [5, 6] (fun lv x wr => ∃ (i kb : Nat) (l : List Nat), i ≤ len ∧ i ≤ 100 ∧ x = .int .i64 i ∧ Hid (RowSt w wr A T [] l.reverse 16 kb lv l ∧ kb ≤ 16 + i ∧ l.length ≤ i ∧ l.Nodup ∧ ∀ s ∈ l, s < 16)) (fun _ x _ => len - (intOf x).toNat)
      case atStart => exact ⟨0, 16, [], Nat.zero_le _, by omega, rfl, Lib.hid ⟨HD2.out, by omega, by simp, by simp, by simp⟩⟩
      case round =>
        obtain ⟨i, kb, l, hil, hi100, rfl, hst⟩ := hrel
        by_cases hlt : i < len
        · by_cases h100 : i < 100
          · obtain ⟨a', c', e, _, _, hcells⟩ := HR.out
            injection e with e1 e2 e3
            subst e1 e3
            obtain ⟨b, o, rfl, hb, hcells⟩ := hcells.resolve_left (by omega)
            have hbw : Below w.heap.size w wr := hst.out.1.bel
            have hx := hcells i hlt
            obtain ⟨x, hxx⟩ : ∃ x, F i = x := ⟨_, rfl⟩
            rw [hxx] at hx
            have bx := u8_bd hx.2
            have cx : wr.cell? ⟨b, o + i, none⟩ = some (.int .u8 x) := (hbw.cell (p := ⟨b, o + i, none⟩) hb).trans hx.1
            obtain ⟨k, hk⟩ : ∃ k : Nat, x % 16 = (k : Int) := ⟨(x % 16).toNat, by omega⟩
            have k16 : k < 16 := by omega
            have x0 := bx.1
            have x1 := bx.2
            have hi0 : (0 : Int) ≤ i := by omega
            have hi1 : (i : Int) < len := by omega
            have hi2 : (i : Int) < 100 := by omega
            have HB := Lib.hid (And.intro hb hx.1)
            clear hx bx hxx hcells hbw hb
            by_cases hm : k ∈ l
            · have hc := Lib.hid (rs_free_no hst.out.1 (by have := hst.out.2.1; omega) k16 (by simpa using hm))
              have HS := Lib.hid hst.out.2
              clear hst hm
              go_wp2_with (go_at_call 47; refine hc.out.mono ?_; rintro e w5 ⟨rfl, hN⟩)
              go_roundw
              case rel => ((repeat apply Exists.intro); exact ⟨⟨i + 1, kb, l, by omega, by omega, by go_num, Lib.hid ⟨hN, by have := HS.out.1; omega, by have := HS.out.2.1; omega, HS.out.2.2⟩⟩, rfl⟩)
              case measure => simp [intOf]; omega
            · have hc := Lib.hid (rs_free hst.out.1 (by have := hst.out.2.1; omega) k16 (by simpa using hm))
              have HS := Lib.hid (And.intro hst.out.2 (And.intro hm hst.out.1.bel))
              have hll : l.length ≤ 1000 := by have := hst.out.2.2.1; omega
              clear hst hm
              go_wp2_with (first | (go_at_call 47; refine hc.out.mono ?_; rintro e w5 ⟨rfl, hN⟩; have cx5 : w5.cell? ⟨b, o + i, none⟩ = some (.int .u8 x) := (hN.bel.cell (p := ⟨b, o + i, none⟩) HB.out.1).trans HB.out.2) | (at_builtin; refine wpList_append_fresh _ rfl _ _ 34 rfl w.heap.size 3 i0 (.int .i64 0) 1 8 Try.underlying34 hi hz0 hz1 hz2 rfl (by decide) _ _ _ rfl (World.ownsRow.alloc hN.own _) ⟨w5.heap.size, 0, none⟩ 1 1 [.int .i64 (k : Int)] rfl rfl (cell_one_new _ _ _) (by simp [Value.oneCell']) (by unfold maxLen; omega) (by omega) (by have := hN.bel.size; simp; omega) ?_; intro v' w6 hown' hgrow hfr'))
              go_roundw
              case rel =>
                have hA := hN.app (s := k) _ hown' hgrow hfr'
                ((repeat apply Exists.intro); exact ⟨⟨i + 1, kb + 1, l ++ [k], by omega, by omega, by go_num, Lib.hid ⟨by rw [List.reverse_append]; exact hA, by have := HS.out.1.1; omega, by have := HS.out.1.2.1; simp; omega, nodup_snoc HS.out.1.2.2.1 HS.out.2.1, all_snoc HS.out.1.2.2.2 k16⟩⟩, rfl⟩)
              case measure => simp [intOf]; omega
          · obtain rfl : i = 100 := by omega
            have HS := Lib.hid hst.out
            have hll : l.length ≤ 100 := by have := hst.out.2.2.1; omega
            clear hst
            obtain ⟨wb, rfl⟩ : ∃ wo : World, wo = wr := ⟨_, rfl⟩
            obtain ⟨lx, lc, rfl⟩ := own_any HS.out.1.own
            go_wp2
            go_loopw [7] (fun x wr => ∃ (j : Nat) (kb' : Nat), j ≤ l.length ∧ x = .int .i64 ((j : Int) - 1) ∧ Hid (RowSt w wr A T (l.drop j) (l.take j).reverse 16 kb' (.slice lx l.length lc) l ∧ kb' ≤ 116 + (l.length - j))) (fun x _ => (intOf x + 1).toNat)
            case atStart => exact ⟨l.length, kb, Nat.le_refl _, rfl, Lib.hid ⟨by rw [List.drop_length, List.take_length]; exact HS.out.1, by have := HS.out.2.1; omega⟩⟩
            case round =>
              obtain ⟨j, kb', hj, rfl, hst⟩ := hrel
              by_cases hj0 : 0 < j
              · obtain ⟨j, rfl⟩ : ∃ j', j = j' + 1 := ⟨j - 1, by omega⟩
                obtain ⟨g, cg, hlx⟩ := own_form HS.out.1.own (by omega)
                injection hlx with hlx _ hcg
                subst hlx hcg
                obtain ⟨s, hs⟩ : ∃ s, l.getD j 0 = s := ⟨_, rfl⟩
                have hgs : l[j]? = some s := by rw [← hs, List.getD_eq_getElem?_getD, List.getElem?_eq_getElem (by omega)]; rfl
                have hsl : s ∈ l := List.mem_of_getElem? hgs
                have hs16 : s < 16 := HS.out.2.2.2.2 s hsl
                have htk : (l.take (j + 1)).reverse = s :: (l.take j).reverse := by rw [List.take_add_one, hgs, List.reverse_append]; rfl
                have hdr : l.drop j = s :: l.drop (j + 1) := by rw [List.drop_eq_getElem_cons (by omega), show l[j] = s from by have := hgs; rw [List.getElem?_eq_getElem (by omega)] at this; exact Option.some.inj this]
                have hnd : s ∉ l.drop (j + 1) := by
                  have h1 := HS.out.2.2.2.1
                  have h2 : (l.drop j).Nodup := h1.sublist (List.drop_sublist j l)
                  rw [hdr] at h2
                  exact (List.nodup_cons.1 h2).1
                have hst2 := hst.out.1
                rw [htk] at hst2
                have HK := Lib.hid (And.intro hdr hst.out.2)
                have HD := Lib.hid (show RowSt w wr.drew A T (l.drop (j + 1)) (s :: (l.take j).reverse) 16 kb' (.slice (some ⟨g, 0, none⟩) l.length lc) l ∧ True from ⟨hst2.below ⟨rfl, rfl, rfl, Nat.le_refl _, fun _ _ => rfl⟩, trivial⟩)
                have HC : Hid (∀ {wq : World} {d p : List Nat} {kq : Nat}, RowSt w wq A T d p 16 kq (.slice (some ⟨g, 0, none⟩) l.length lc) l → wq.cell? ⟨g, j, none⟩ = some (.int .i64 (s : Int))) := Lib.hid (fun h => hs ▸ h.cell (by omega))
                have s0 : (0 : Int) ≤ s := by omega
                have s1 : (s : Int) < 16 := by omega
                have hw512 : IntKind.i64.wrap (512 + (s : Int)) = 512 + s := by rw [IntKind.wrap_i64]; omega
                have j0 : (0 : Int) ≤ j := by omega
                have j1 : (j : Int) < l.length := by omega
                have HN := Lib.hid hnd
                have kb2 : kb' ≤ 1000 := by have := hst.out.2; omega
                clear hst hst2 htk hdr hs hgs hsl hnd
                have ej : ((j + 1 : Nat) : Int) - 1 = (j : Int) := by omega
                rw [ej]
                clear ej
                go_wp2_with fail
                go_region_held3 (fun wy => wy.cell? ⟨g, j, none⟩ = some (.int .i64 (s : Int))) (exact HC.out HD.out.1)
                  ((go_at_call 62; refine (rs_pend HD.out.1 kb2 hs16 (by decide) HN.out).mono ?_; rintro e wN ⟨rfl, hN⟩; have HD1 := Lib.hid (And.intro hN True.intro); clear HD hN; have HD := HD1; clear HD1))
                go_wp2
                go_roundw
                case rel => first | exact ⟨j, kb' + 1, by omega, by go_num, Lib.hid ⟨by rw [HK.out.1]; exact HD.out.1, by have := HK.out.2; omega⟩⟩ | ((repeat apply Exists.intro); exact ⟨⟨j, kb' + 1, by omega, by go_num, Lib.hid ⟨by rw [HK.out.1]; exact HD.out.1, by have := HK.out.2; omega⟩⟩, rfl⟩)
                case measure => simp [intOf]
              · obtain rfl : j = 0 := by omega
                have hst2 := hst.out.1
                rw [List.drop_zero, List.take_zero, List.reverse_nil] at hst2
                have HE : Hid (RowSt w wr A T l [] 16 kb' (.slice lx l.length lc) l ∧ kb' ≤ 216) := Lib.hid ⟨hst2, by have := hst.out.2; omega⟩
                have H16 : Hid (∀ s ∈ l, s < 16) := Lib.hid HS.out.2.2.2.2
                clear hst hst2 HS
                obtain ⟨wc, rfl⟩ : ∃ wo : World, wo = wr := ⟨_, rfl⟩
                go_wp2
                go_loopw [8] (fun x wr => ∃ i : Nat, 16 ≤ i ∧ i ≤ 20 ∧ x = .int .i64 i ∧ Hid (∃ kb, kb ≤ 200 + i ∧ RowSt w wr A T l [] i kb (.slice lx l.length lc) l)) (fun x _ => 20 - (intOf x).toNat)
                case atStart => exact ⟨16, by omega, by omega, rfl, Lib.hid ⟨kb', HE.out.2, HE.out.1⟩⟩
                case round =>
                  obtain ⟨i, hi16, hi20, rfl, hst⟩ := hrel
                  by_cases hlt : i < 20
                  · obtain ⟨kc, hkc, hs⟩ := hst.out
                    have hc := Lib.hid (rs_fresh hs (by omega) hlt (fun h => by have := H16.out i h; omega))
                    clear hst hs
                    go_wp2_with (go_at_call 62; refine hc.out.mono ?_; rintro e w2 ⟨rfl, hN⟩)
                    go_roundw
                    case rel => ((repeat apply Exists.intro); exact ⟨⟨i + 1, by omega, by omega, by go_num, Lib.hid ⟨kc + 1, by omega, hN⟩⟩, rfl⟩)
                    case measure => simp [intOf]; omega
                  · obtain rfl : i = 20 := by omega
                    obtain ⟨kc, hkc, hs⟩ := hst.out
                    have hc := Lib.hid (rs_full hs)
                    clear hst hs
                    go_wp2_with (first | (go_at_call 62; refine hc.out.mono ?_; rintro e w2 ⟨rfl, hN⟩; have hc2 := Lib.hid (rs_len hN); have hC := Lib.hid hN.bel; clear hN) | (go_at_call 57; refine hc2.out.mono ?_; rintro e w3 ⟨rfl, hN⟩))
                    go_ret
                    exact ⟨rfl, hN.bel⟩
        · obtain rfl : i = len := by omega
          have HS := Lib.hid hst.out
          have hll : l.length ≤ 100 := by have := hst.out.2.2.1; omega
          clear hst
          obtain ⟨wb, rfl⟩ : ∃ wo : World, wo = wr := ⟨_, rfl⟩
          obtain ⟨lx, lc, rfl⟩ := own_any HS.out.1.own
          go_wp2
          go_loopw [7] (fun x wr => ∃ (j : Nat) (kb' : Nat), j ≤ l.length ∧ x = .int .i64 ((j : Int) - 1) ∧ Hid (RowSt w wr A T (l.drop j) (l.take j).reverse 16 kb' (.slice lx l.length lc) l ∧ kb' ≤ 116 + (l.length - j))) (fun x _ => (intOf x + 1).toNat)
          case atStart => exact ⟨l.length, kb, Nat.le_refl _, rfl, Lib.hid ⟨by rw [List.drop_length, List.take_length]; exact HS.out.1, by have := HS.out.2.1; omega⟩⟩
          case round =>
            obtain ⟨j, kb', hj, rfl, hst⟩ := hrel
            by_cases hj0 : 0 < j
            · obtain ⟨j, rfl⟩ : ∃ j', j = j' + 1 := ⟨j - 1, by omega⟩
              obtain ⟨g, cg, hlx⟩ := own_form HS.out.1.own (by omega)
              injection hlx with hlx _ hcg
              subst hlx hcg
              obtain ⟨s, hs⟩ : ∃ s, l.getD j 0 = s := ⟨_, rfl⟩
              have hgs : l[j]? = some s := by rw [← hs, List.getD_eq_getElem?_getD, List.getElem?_eq_getElem (by omega)]; rfl
              have hsl : s ∈ l := List.mem_of_getElem? hgs
              have hs16 : s < 16 := HS.out.2.2.2.2 s hsl
              have htk : (l.take (j + 1)).reverse = s :: (l.take j).reverse := by rw [List.take_add_one, hgs, List.reverse_append]; rfl
              have hdr : l.drop j = s :: l.drop (j + 1) := by rw [List.drop_eq_getElem_cons (by omega), show l[j] = s from by have := hgs; rw [List.getElem?_eq_getElem (by omega)] at this; exact Option.some.inj this]
              have hnd : s ∉ l.drop (j + 1) := by
                have h1 := HS.out.2.2.2.1
                have h2 : (l.drop j).Nodup := h1.sublist (List.drop_sublist j l)
                rw [hdr] at h2
                exact (List.nodup_cons.1 h2).1
              have hst2 := hst.out.1
              rw [htk] at hst2
              have HK := Lib.hid (And.intro hdr hst.out.2)
              have HD := Lib.hid (show RowSt w wr.drew A T (l.drop (j + 1)) (s :: (l.take j).reverse) 16 kb' (.slice (some ⟨g, 0, none⟩) l.length lc) l ∧ True from ⟨hst2.below ⟨rfl, rfl, rfl, Nat.le_refl _, fun _ _ => rfl⟩, trivial⟩)
              have HC : Hid (∀ {wq : World} {d p : List Nat} {kq : Nat}, RowSt w wq A T d p 16 kq (.slice (some ⟨g, 0, none⟩) l.length lc) l → wq.cell? ⟨g, j, none⟩ = some (.int .i64 (s : Int))) := Lib.hid (fun h => hs ▸ h.cell (by omega))
              have s0 : (0 : Int) ≤ s := by omega
              have s1 : (s : Int) < 16 := by omega
              have hw512 : IntKind.i64.wrap (512 + (s : Int)) = 512 + s := by rw [IntKind.wrap_i64]; omega
              have j0 : (0 : Int) ≤ j := by omega
              have j1 : (j : Int) < l.length := by omega
              have HN := Lib.hid hnd
              have kb2 : kb' ≤ 1000 := by have := hst.out.2; omega
              clear hst hst2 htk hdr hs hgs hsl hnd
              have ej : ((j + 1 : Nat) : Int) - 1 = (j : Int) := by omega
              rw [ej]
              clear ej
              go_wp2_with fail
              go_region_held3 (fun wy => wy.cell? ⟨g, j, none⟩ = some (.int .i64 (s : Int))) (exact HC.out HD.out.1)
                ((go_at_call 62; refine (rs_pend HD.out.1 kb2 hs16 (by decide) HN.out).mono ?_; rintro e wN ⟨rfl, hN⟩; have HD1 := Lib.hid (And.intro hN True.intro); clear HD hN; have HD := HD1; clear HD1))
              go_wp2
              go_roundw
              case rel => first | exact ⟨j, kb' + 1, by omega, by go_num, Lib.hid ⟨by rw [HK.out.1]; exact HD.out.1, by have := HK.out.2; omega⟩⟩ | ((repeat apply Exists.intro); exact ⟨⟨j, kb' + 1, by omega, by go_num, Lib.hid ⟨by rw [HK.out.1]; exact HD.out.1, by have := HK.out.2; omega⟩⟩, rfl⟩)
              case measure => simp [intOf]
            · obtain rfl : j = 0 := by omega
              have hst2 := hst.out.1
              rw [List.drop_zero, List.take_zero, List.reverse_nil] at hst2
              have HE : Hid (RowSt w wr A T l [] 16 kb' (.slice lx l.length lc) l ∧ kb' ≤ 216) := Lib.hid ⟨hst2, by have := hst.out.2; omega⟩
              have H16 : Hid (∀ s ∈ l, s < 16) := Lib.hid HS.out.2.2.2.2
              clear hst hst2 HS
              obtain ⟨wc, rfl⟩ : ∃ wo : World, wo = wr := ⟨_, rfl⟩
              go_wp2
              go_loopw [8] (fun x wr => ∃ i : Nat, 16 ≤ i ∧ i ≤ 20 ∧ x = .int .i64 i ∧ Hid (∃ kb, kb ≤ 200 + i ∧ RowSt w wr A T l [] i kb (.slice lx l.length lc) l)) (fun x _ => 20 - (intOf x).toNat)
              case atStart => exact ⟨16, by omega, by omega, rfl, Lib.hid ⟨kb', HE.out.2, HE.out.1⟩⟩
              case round =>
                obtain ⟨i, hi16, hi20, rfl, hst⟩ := hrel
                by_cases hlt : i < 20
                · obtain ⟨kc, hkc, hs⟩ := hst.out
                  have hc := Lib.hid (rs_fresh hs (by omega) hlt (fun h => by have := H16.out i h; omega))
                  clear hst hs
                  go_wp2_with (go_at_call 62; refine hc.out.mono ?_; rintro e w2 ⟨rfl, hN⟩)
                  go_roundw
                  case rel => ((repeat apply Exists.intro); exact ⟨⟨i + 1, by omega, by omega, by go_num, Lib.hid ⟨kc + 1, by omega, hN⟩⟩, rfl⟩)
                  case measure => simp [intOf]; omega
                · obtain rfl : i = 20 := by omega
                  obtain ⟨kc, hkc, hs⟩ := hst.out
                  have hc := Lib.hid (rs_full hs)
                  clear hst hs
                  go_wp2_with (first | (go_at_call 62; refine hc.out.mono ?_; rintro e w2 ⟨rfl, hN⟩; have hc2 := Lib.hid (rs_len hN); have hC := Lib.hid hN.bel; clear hN) | (go_at_call 57; refine hc2.out.mono ?_; rintro e w3 ⟨rfl, hN⟩))
                  go_ret
                  exact ⟨rfl, hN.bel⟩
end Go.Proofs.Ytfkkkndigkchcaa
