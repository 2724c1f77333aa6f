/- TrailGrows: cells that are made have numbers of their own, and 0 in them. No condition. -/
import Derived.Test.YtfkkkndigkchcaaTrailV
namespace Go.Proofs.Ytfkkkndigkchcaa
open Go.ChangeShapes Go.WideShapes Go.ChangeAt Go.RowKit

set_option maxRecDepth 100000 in
set_option maxHeartbeats 4000000 in
theorem trailGrows_walk (a : Option Addr) (len cap : Nat) (F : Nat → Int) (w : World) (hR : Nums w w.heap.size .u8 (.slice a len cap) len F) (hl : (len : Int) ≤ 9223372036854775807) :
    Calls Try.prog 7 #[.slice a len cap] w fun e w' => e = .returned (.bool true) ∧ Below w.heap.size w w' := by
  have HR := Lib.hid hR
  clear hR
  go_enter Try.func7, Try.ntmps7
  go_wp2_with fail
  refine (tr_new _).mono ?_
  rintro e w1 ⟨rfl, hn⟩
  obtain ⟨t0, b0⟩ := hn w (Below.refl _ _)
  have Ht := Lib.hid t0
  clear hn t0 b0
  go_wp2
  obtain ⟨T, hT⟩ : ∃ T, w.heap.size = T := ⟨_, rfl⟩
  rw [hT] at Ht ⊢
  have HTT := Lib.hid hT
  clear hT
  go_loopw [4, 5] (fun n i wr => ∃ (i' at' : Nat) (O : Nat → Prop) (cs : List Int) (hs : List (Int × Int)), i' ≤ len ∧ i' ≤ 12 ∧ at' ≤ 30 * i' ∧ i = .int .i64 i' ∧ n = .int .i64 at' ∧ Hid (TrS w wr T O cs hs ∧ cs.length = at' ∧ hs.length ≤ 100 * i')) (fun _ i _ => len - (intOf i).toNat)
  case atStart => exact ⟨0, 0, _, _, _, Nat.zero_le _, by omega, by omega, rfl, rfl, ⟨Ht.out, rfl, by simp⟩⟩
  case round =>
    obtain ⟨i, at', O, cs, hs, hi, hi6, hat, rfl, rfl, hst⟩ := hrel
    by_cases hlt : i < len
    · by_cases h60 : i < 12
      · obtain ⟨a', c', e, _, _, hcells⟩ := HR.out
        injection e with e1 e2 e3
        subst e1 e3
        obtain ⟨b, o, rfl, hb, hcells⟩ := hcells.resolve_left (by omega)
        have hbw : Below w.heap.size w wr := hst.out.1.bel
        have hx := hcells i hlt
        obtain ⟨x, hxx⟩ : ∃ x, F i = x := ⟨_, rfl⟩
        rw [hxx] at hx
        have bx := u8_bd hx.2
        have cx : wr.cell? ⟨b, o + i, none⟩ = some (.int .u8 x) := (hbw.cell (p := ⟨b, o + i, none⟩) hb).trans hx.1
        have HCX := Lib.hid (And.intro hb hx.1)
        obtain ⟨k, hk⟩ : ∃ k : Nat, x % 30 = (k : Int) := ⟨(x % 30).toNat, by omega⟩
        have x0 := bx.1
        have x1 := bx.2
        obtain ⟨n, hn⟩ : ∃ n : Nat, (1 : Int) + (k : Int) = (n : Int) := ⟨1 + k, by omega⟩
        have n1 : 1 ≤ n := by omega
        have n2 : n ≤ 30 := by omega
        have m0 : hs.length ≤ 1200 := by have := hst.out.2.2; omega
        clear hx bx hxx hcells hbw hb
        have hi0 : (0 : Int) ≤ i := by omega
        have hi1 : (i : Int) < len := by omega
        obtain ⟨m, hm⟩ : ∃ m, hs.length = m := ⟨_, rfl⟩
        have HM := Lib.hid hm
        rw [hm] at m0
        clear hm
        go_wp2_with fail
        refine (tr_mark hst.out.1).mono ?_
        rintro e w' ⟨he, rfl⟩
        rw [HM.out] at he
        subst he
        go_wp2_with fail
        refine (tr_alloc hst.out.1 (n : Int) ⟨by omega, by rw [hst.out.2.1]; omega⟩ (by rw [HM.out]; omega)).mono ?_
        rintro e w1 ⟨he, hn⟩
        obtain ⟨O1, t0, o0⟩ := hn.st
        have H1 := Lib.hid t0
        clear hn t0 o0
        rw [hst.out.2.1] at he
        subst he
        clear hk hn cx
        go_wp2_with fail
        refine (tr_len H1.out).mono ?_
        rintro e w' ⟨he, rfl⟩
        rw [List.length_append, List.length_replicate, Int.toNat_natCast, hst.out.2.1] at he
        subst he
        have ecast : ((at' + n : Nat) : Int) = (at' : Int) + n := by omega
        rw [ecast]
        clear ecast
        go_wp2
        obtain ⟨wo, rfl⟩ : ∃ wo : World, wo = w1 := ⟨_, rfl⟩
        have K1 := H1.out
        rw [Int.toNat_natCast] at K1
        have hwas : was (cs ++ List.replicate n 0) (hs ++ [((-1 : Int), (n : Int))]) m = cs ∧ (hs ++ [((-1 : Int), (n : Int))]).take m = hs ∧ m ≤ (hs ++ [((-1 : Int), (n : Int))]).length ∧ (hs ++ [((-1 : Int), (n : Int))]).length ≤ m + 1 ∧ (cs ++ List.replicate n 0).length = at' + n := by
          refine ⟨by rw [was_alloc _ _ _ _ (by rw [HM.out]; exact Nat.le_refl _), ← HM.out, was_last], by rw [← HM.out, List.take_append_of_le_length (Nat.le_refl _), List.take_length], by rw [List.length_append, HM.out]; omega, by rw [List.length_append, HM.out]; exact Nat.le_refl _, by rw [List.length_append, List.length_replicate, hst.out.2.1]⟩
        have HS := Lib.hid (And.intro K1 hwas)
        clear K1 hwas H1
        go_loopw [9] (fun kx wx => ∃ (j : Nat) (Oj : Nat → Prop) (cj : List Int) (hj : List (Int × Int)), j ≤ n ∧ kx = .int .i64 j ∧ Hid (TrS w wx T Oj cj hj ∧ cj.length = at' + n ∧ was cj hj m = cs ∧ hj.take m = hs ∧ m ≤ hj.length ∧ hj.length ≤ m + 1 + j ∧ ∀ q : Nat, j ≤ q → q < n → getZ cj ((at' : Int) + q) = 0)) (fun kx _ => n - (intOf kx).toNat)
        case atStart => exact ⟨0, _, _, _, Nat.zero_le _, rfl, ⟨HS.out.1, HS.out.2.2.2.2.2, HS.out.2.1, HS.out.2.2.1, HS.out.2.2.2.1, HS.out.2.2.2.2.1, fun q _ _ => getZ_app_zeros (by rw [hst.out.2.1]; omega)⟩⟩
        case round =>
          obtain ⟨j, Oj, cj, hj, hjn, rfl, hS⟩ := hrel
          have hjl : hj.length < 1099511627776 := by have := hS.out.2.2.2.2.2.1; omega
          clear HS HTT
          by_cases hjlt : j < n
          · go_wp2_with fail
            refine (tr_get hS.out.1 ((at' : Int) + j)).mono ?_
            rintro e w' ⟨he, rfl⟩
            rw [hS.out.2.2.2.2.2.2 j (Nat.le_refl _) hjlt] at he
            subst he
            go_wp2_with fail
            refine (tr_set hS.out.1 ((at' : Int) + j) ((1 : Int) + j) hjl).mono ?_
            rintro e w2 ⟨rfl, hn⟩
            obtain ⟨O2, t0, o0⟩ := hn.st
            have H2 := Lib.hid t0
            clear hn t0 o0
            go_wp2
            go_roundw
            case rel => exact ⟨j + 1, O2, _, _, by omega, by go_num, ⟨H2.out, by rw [setC_len]; exact hS.out.2.1, by rw [(was_setCH _ _ hS.out.2.2.2.2.1).1]; exact hS.out.2.2.1, by rw [(was_setCH _ _ hS.out.2.2.2.2.1).2]; exact hS.out.2.2.2.1, Nat.le_trans hS.out.2.2.2.2.1 (setH_len _ _ _ _).1, Nat.le_trans (setH_len _ _ _ _).2 (by have := hS.out.2.2.2.2.2.1; omega), fun q h1 h2 => by rw [getZ_setC_ne (by omega)]; exact hS.out.2.2.2.2.2.2 q (by omega) h2⟩⟩
            case measure => simp [intOf]; omega
          · obtain rfl : j = n := by omega
            have cx : wr.cell? ⟨b, o + i, none⟩ = some (.int .u8 x) := (hS.out.1.bel.cell (p := ⟨b, o + i, none⟩) HCX.out.1).trans HCX.out.2
            by_cases hx8 : 128 ≤ x
            · go_wp2_with fail
              refine (tr_back hS.out.1 m hS.out.2.2.2.2.1 hjl).mono ?_
              rintro e w3 ⟨rfl, hn⟩
              obtain ⟨O3, t0, o0⟩ := hn.st
              rw [hS.out.2.2.1, hS.out.2.2.2.1] at t0
              have H3 := Lib.hid t0
              clear hn t0 o0 cx
              go_wp2_with fail
              refine (tr_len H3.out).mono ?_
              rintro e w' ⟨he, rfl⟩
              rw [hst.out.2.1] at he
              subst he
              go_wp2_with fail
              refine (tr_get H3.out (at' : Int)).mono ?_
              rintro e w' ⟨he, rfl⟩
              rw [getZ_out (by rw [hst.out.2.1]; omega)] at he
              subst he
              go_wp2_with fail
              refine (tr_alloc H3.out (j : Int) ⟨by omega, by rw [hst.out.2.1]; omega⟩ (by have := hst.out.2.2; omega)).mono ?_
              rintro e w4 ⟨he, hn⟩
              obtain ⟨O4, t0, o0⟩ := hn.st
              have H4 := Lib.hid t0
              clear hn t0 o0
              rw [hst.out.2.1] at he
              subst he
              go_wp2_with fail
              refine (tr_get H4.out ((at' : Int) + j - 1)).mono ?_
              rintro e w' ⟨he, rfl⟩
              rw [getZ_app_zeros (by rw [hst.out.2.1]; omega)] at he
              subst he
              go_wp2
              go_roundw
              case rel => exact ⟨i + 1, at' + j, O4, _, _, by omega, by omega, by omega, by go_num, by go_num, ⟨H4.out, by rw [List.length_append, List.length_replicate, hst.out.2.1, Int.toNat_natCast], by rw [List.length_append]; have := hst.out.2.2; simp; omega⟩⟩
              case measure => simp [intOf]; omega
            · go_wp2
              go_roundw
              case rel => exact ⟨i + 1, at' + j, Oj, cj, hj, by omega, by omega, by omega, by go_num, by go_num, ⟨hS.out.1, hS.out.2.1, by have := hS.out.2.2.2.2.2.1; have := hst.out.2.2; have := HM.out; omega⟩⟩
              case measure => simp [intOf]; omega
      · obtain rfl : i = 12 := by omega
        go_wp2_with fail
        refine (tworks_any _).mono ?_
        rintro e wc ⟨rfl, hc⟩
        have HC := Lib.hid hc
        clear hc
        go_wp2
        go_ret
        exact ⟨rfl, fb_call hst.out.1.bel HC.out⟩
    · obtain rfl : len = i := by omega
      clear hlt
      go_wp2_with fail
      refine (tworks_any _).mono ?_
      rintro e wc ⟨rfl, hc⟩
      have HC := Lib.hid hc
      clear hc
      go_wp2
      go_ret
      exact ⟨rfl, fb_call hst.out.1.bel HC.out⟩

theorem trailGrows_own : ownKnob Try.prog.godebug = none := by kernel_rfl
theorem trailGrows_laidOut : laidOutB Try.prog = true := by kernel_rfl

set_option maxHeartbeats 1000000 in
set_option maxRecDepth 100000 in
theorem trailGrows_lifted (os : Os) (started : os.Started) (H : Type) (enc : TypeId × Value → H) :
    ReturnsInHanded {} Try.checked os 7 .any (Rows.trailGrowsSpec.pre6 enc Try.prog Try.f7 Rows.trailGrowsRow.domain false) (Rows.trailGrowsSpec.post enc Try.prog Try.f7 false true false false) := by
  refine returnsInHanded_of_change (C := Try.checked) trailGrows_own started (by kernel_rfl) Try.func7
    (ChangeSpec.witness6 (enc := enc) (C := Try.checked) false ⟨#[], #[.slice none 0 0], []⟩ 8 (by kernel_rfl) (by kernel_rfl) (by kernel_rfl) (by kernel_rfl)) ?_
  intro W base args ds gs before hval0 hW hcnd _
  have hval : ∀ (j : Nat) t v, Try.f7.params[j]? = some t → args[j]? = some v → Value.okWide Try.prog W .any base t v := hval0
  have hW' := hW
  obtain ⟨p, q, hA0, hV, rfl, hfz, hnd⟩ := hW
  have hA : DataW.TrodAll enc Try.prog W 0 (fun _ => true) true Try.f7.params.toList args.toList ds p := hA0
  rw [Try.params7] at hA hval
  obtain ⟨v0, vs0, d0, ds0, p0, q0, hargs, rfl, rfl, h0, r0⟩ := trodAll_cons hA
  obtain ⟨rfl, rfl, rfl⟩ := trodAll_nil r0
  obtain rfl : args = #[v0] := by cases args; simp_all
  obtain ⟨rfl, rfl⟩ := trodVars_none hV
  have k0 := h0
  have lt0 : ∀ x ∈ p0, x.block < W.heap.size := by obtain ⟨m, hm⟩ := k0; exact DataW.trod_lt m _ _ _ hm
  obtain ⟨a, n, c, F, rfl, hln, hmn, hrn⟩ := open_nums Try.underlying47 Try.underlying5 (by kernel_rfl) (hval 0 47 v0 rfl rfl) h0
  clear hA0 hval0
  refine (trailGrows_walk a n c F W hrn (by have := hmn; unfold maxLen at this; omega)).mono fun e W' ⟨he, bel⟩ => ?_
  subst he
  exact ⟨_, rfl, _, _, _, [], _, [], hW', trodAll_mk1 (shut_bool Try.underlying4 _), (trodAll_cons_mk (Below.trod trailGrows_laidOut (by kernel_rfl) (of_decide_eq_true (by kernel_rfl)) k0 bel lt0) trodAll_mk0), rfl, bel.frame _, fun h => by cases h⟩

theorem trailGrows_over : Rows.trailGrowsRow.holds Try.pinned (OpenSpec.ofChange Rows.trailGrowsSpec) :=
  OpenClaim.holds_of_wide 7 Try.f7 rfl rfl rfl rfl rfl rfl rfl ⟨rfl, rfl, rfl, rfl, rfl⟩ rfl rfl rfl rfl rfl (by kernel_rfl) Try.func7 (by kernel_rfl)
    (of_decide_eq_true (by kernel_rfl)) (by unfold Func.isWrapper; first | (rw [if_pos (by decide +kernel)]; kernel_rfl) | (rw [if_neg (by decide +kernel)]; exact ⟨rfl, rfl⟩))
    (fun os started H enc _ => trailGrows_lifted os started H enc)

/-- The statement. -/
theorem trailGrows_holds : Rows.TrailGrowsSaid := trailGrows_over
#print axioms trailGrows_holds
end Go.Proofs.Ytfkkkndigkchcaa
