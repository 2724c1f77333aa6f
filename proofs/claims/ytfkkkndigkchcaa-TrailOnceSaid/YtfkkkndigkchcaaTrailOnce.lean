/- TrailOnce: setting a cell to what it is changes nothing. No condition. -/
import Derived.Test.YtfkkkndigkchcaaTrailU
namespace Go.Proofs.Ytfkkkndigkchcaa
open Go.ChangeShapes Go.WideShapes Go.ChangeAt Go.RowKit

set_option maxRecDepth 100000 in
set_option maxHeartbeats 4000000 in
theorem trailOnce_walk (a : Option Addr) (len cap : Nat) (F : Nat → Nat → Int) (w : World) (hR : Rws w w.heap.size .u8 2 (.slice a len cap) len F) (hl : (len : Int) ≤ 9223372036854775807) :
    Calls Try.prog 5 #[.slice a len cap] w fun e w' => e = .returned (.bool true) ∧ Below w.heap.size w w' := by
  have HR := Lib.hid hR
  clear hR
  go_enter Try.func5, Try.ntmps5
  go_wp2_with fail
  refine (tr_new _).mono ?_
  rintro e w1 ⟨rfl, hn⟩
  obtain ⟨t0, b0⟩ := hn w (Below.refl _ _)
  have Ht := Lib.hid t0
  clear hn t0 b0
  go_wp2_with fail
  refine (tr_alloc Ht.out 8 (by unfold canA; simp) (by simp)).mono ?_
  rintro e w2 ⟨he, hn⟩
  obtain rfl : e = .returned (.int .i64 0) := he
  obtain ⟨O2, t0, o0⟩ := hn.st
  have K0 : TrS w w2 w.heap.size O2 [0, 0, 0, 0, 0, 0, 0, 0] [((-1), 8)] := by exact t0
  clear Ht
  have Ht := Lib.hid K0
  clear hn t0 o0 K0
  go_wp2_with fail
  refine (tr_mark Ht.out).mono ?_
  rintro e w' ⟨he, rfl⟩
  obtain rfl : e = .returned (.int .i64 1) := he
  go_wp2
  obtain ⟨T, hT⟩ : ∃ T, w.heap.size = T := ⟨_, rfl⟩
  rw [hT] at Ht ⊢
  have HTT := Lib.hid hT
  clear hT
  go_loopw [4, 5] (fun n i wr => ∃ (i' nn : Nat) (O : Nat → Prop) (cs : List Int) (hs : List (Int × Int)), i' ≤ len ∧ i' ≤ 60 ∧ nn ≤ i' + 1 ∧ i = .int .i64 i' ∧ n = .int .i64 nn ∧ Hid (TrS w wr T O cs hs ∧ hs.length = nn ∧ cs.length = 8)) (fun _ i _ => len - (intOf i).toNat)
  case atStart => exact ⟨0, 1, _, _, _, Nat.zero_le _, by omega, by omega, rfl, rfl, ⟨Ht.out, rfl, rfl⟩⟩
  case round =>
    obtain ⟨i, nn, O, cs, hs, hi, hi6, hnn, rfl, rfl, hst⟩ := hrel
    by_cases hlt : i < len
    · by_cases h60 : i < 60
      · obtain ⟨a', c', e, _, _, hcells⟩ := HR.out
        injection e with e1 e2 e3
        subst e1 e3
        obtain ⟨b, o, rfl, hb, hcells⟩ := hcells.resolve_left (by omega)
        have hbw : Below w.heap.size w wr := hst.out.1.bel
        have hx := hcells i hlt 0 (by omega)
        have hy := hcells i hlt 1 (by omega)
        obtain ⟨x, hxx⟩ : ∃ x, F i 0 = x := ⟨_, rfl⟩
        obtain ⟨y, hyy⟩ : ∃ y, F i 1 = y := ⟨_, rfl⟩
        rw [hxx] at hx
        rw [hyy] at hy
        have bx := u8_bd hx.2
        have by_ := u8_bd hy.2
        have cx : wr.cell? ⟨b, o + i * 2, none⟩ = some (.int .u8 x) := (hbw.cell (p := ⟨b, o + i * 2, none⟩) hb).trans hx.1
        have cy : wr.cell? ⟨b, o + i * 2 + 1, none⟩ = some (.int .u8 y) := (hbw.cell (p := ⟨b, o + i * 2 + 1, none⟩) hb).trans hy.1
        obtain ⟨k, hk⟩ : ∃ k : Nat, x % 10 = (k : Int) := ⟨(x % 10).toNat, by omega⟩
        obtain ⟨v, hv⟩ : ∃ v : Nat, y % 4 = (v : Int) := ⟨(y % 4).toNat, by omega⟩
        have hk10 : k < 10 := by omega
        have hv4 : v < 4 := by omega
        have x0 := bx.1
        have x1 := bx.2
        have y0 := by_.1
        have y1 := by_.2
        clear hx hy bx by_ hxx hyy hcells hbw hb
        have hi0 : (0 : Int) ≤ i := by omega
        have hi1 : (i : Int) < len := by omega
        by_cases hk8 : k < 8
        · have hkc : k < cs.length := by rw [hst.out.2.2]; exact hk8
          have hkB : decide (k < 8) = true := by simp; exact hk8
          by_cases he : getZ cs (k : Int) = (v : Int)
          · have HE := Lib.hid (And.intro he hkc)
            clear he hkc
            go_wp2
            go_quiet (fail)
            obtain ⟨wq, hwq⟩ : ∃ wq, wr.drewN nq = wq := ⟨_, rfl⟩
            have H1 := Lib.hid (show TrS w wq T O cs hs by rw [← hwq]; exact hst.out.1.below (bel_drewN (Below.refl _ _) nq))
            rw [hwq]
            clear hwq cx cy
            go_wp2_with fail
            refine (tr_get H1.out (k : Int)).mono ?_
            rintro e w' ⟨he, rfl⟩
            rw [HE.out.1] at he
            subst he
            go_wp2_with fail
            refine (tr_set H1.out (k : Int) (v : Int) (by rw [hst.out.2.1]; omega)).mono ?_
            rintro e w2 ⟨rfl, hn⟩
            obtain ⟨O2, t0, o0⟩ := hn.st
            rw [setH_eq HE.out.1] at t0
            have H2 := Lib.hid t0
            clear hn t0 o0
            go_wp2_with fail
            refine (tr_mark H2.out).mono ?_
            rintro e w' ⟨he, rfl⟩
            rw [hst.out.2.1] at he
            subst he
            go_wp2_with fail
            refine (tr_get H2.out (k : Int)).mono ?_
            rintro e w' ⟨he, rfl⟩
            rw [getZ_setC HE.out.2] at he
            subst he
            go_wp2
            go_roundw
            case rel => exact ⟨i + 1, nn, O2, _, hs, by omega, by omega, by omega, by go_num, rfl, ⟨H2.out, hst.out.2.1, by rw [setC_len]; exact hst.out.2.2⟩⟩
            case measure => simp [intOf]; omega
          · have HE := Lib.hid (And.intro he hkc)
            obtain ⟨g, hg⟩ : ∃ g, getZ cs (k : Int) = g := ⟨_, rfl⟩
            have HG := Lib.hid hg
            have hgB : (g != (v : Int)) = true := by rw [← hg]; simp [he]
            clear he hkc hg
            go_wp2
            go_quiet (fail)
            obtain ⟨wq, hwq⟩ : ∃ wq, wr.drewN nq = wq := ⟨_, rfl⟩
            have H1 := Lib.hid (show TrS w wq T O cs hs by rw [← hwq]; exact hst.out.1.below (bel_drewN (Below.refl _ _) nq))
            rw [hwq]
            clear hwq cx cy
            go_wp2_with fail
            refine (tr_get H1.out (k : Int)).mono ?_
            rintro e w' ⟨he, rfl⟩
            rw [HG.out] at he
            subst he
            go_wp2_with fail
            refine (tr_set H1.out (k : Int) (v : Int) (by rw [hst.out.2.1]; omega)).mono ?_
            rintro e w2 ⟨rfl, hn⟩
            obtain ⟨O2, t0, o0⟩ := hn.st
            have H2 := Lib.hid t0
            clear hn t0 o0
            go_wp2_with fail
            refine (tr_mark H2.out).mono ?_
            rintro e w' ⟨he, rfl⟩
            rw [setH_ne HE.out.2 HE.out.1, hst.out.2.1] at he
            obtain rfl : e = .returned (.int .i64 ((nn : Int) + 1)) := by rw [he]; go_num
            go_wp2_with fail
            refine (tr_get H2.out (k : Int)).mono ?_
            rintro e w' ⟨he, rfl⟩
            rw [getZ_setC HE.out.2] at he
            subst he
            go_wp2
            go_roundw
            case rel => exact ⟨i + 1, nn + 1, O2, _, _, by omega, by omega, by omega, by go_num, by go_num, ⟨H2.out, by rw [setH_ne HE.out.2 HE.out.1, hst.out.2.1], by rw [setC_len]; exact hst.out.2.2⟩⟩
            case measure => simp [intOf]; omega
        · have hko : ¬ (0 ≤ (k : Int) ∧ (k : Int) < cs.length) := by rw [hst.out.2.2]; omega
          have hkB : decide (k < 8) = false := by simp; omega
          have hk8' : 8 ≤ k := by omega
          have HE := Lib.hid hko
          clear hko hk8
          go_wp2
          go_quiet (fail)
          obtain ⟨wq, hwq⟩ : ∃ wq, wr.drewN nq = wq := ⟨_, rfl⟩
          have H1 := Lib.hid (show TrS w wq T O cs hs by rw [← hwq]; exact hst.out.1.below (bel_drewN (Below.refl _ _) nq))
          rw [hwq]
          clear hwq cx cy
          go_wp2_with fail
          refine (tr_set H1.out (k : Int) (v : Int) (by rw [hst.out.2.1]; omega)).mono ?_
          rintro e w2 ⟨rfl, hn⟩
          obtain ⟨O2, t0, o0⟩ := hn.st
          rw [setH_out HE.out] at t0
          have H2 := Lib.hid t0
          clear hn t0 o0
          go_wp2_with fail
          refine (tr_mark H2.out).mono ?_
          rintro e w' ⟨he, rfl⟩
          rw [hst.out.2.1] at he
          subst he
          go_wp2_with fail
          refine (tr_get H2.out (k : Int)).mono ?_
          rintro e w' ⟨he, rfl⟩
          rw [getZ_out (by rw [setC_len]; exact HE.out)] at he
          subst he
          go_wp2
          go_roundw
          case rel => exact ⟨i + 1, nn, O2, _, hs, by omega, by omega, by omega, by go_num, rfl, ⟨H2.out, hst.out.2.1, by rw [setC_len]; exact hst.out.2.2⟩⟩
          case measure => simp [intOf]; omega
      · obtain rfl : i = 60 := by omega
        go_wp2_with fail
        refine (tworks_any _).mono ?_
        rintro e wc ⟨rfl, hc⟩
        have HC := Lib.hid hc
        clear hc
        go_wp2
        go_ret
        exact ⟨rfl, fb_call hst.out.1.bel HC.out⟩
    · obtain rfl : len = i := by omega
      clear hlt
      go_wp2_with fail
      refine (tworks_any _).mono ?_
      rintro e wc ⟨rfl, hc⟩
      have HC := Lib.hid hc
      clear hc
      go_wp2
      go_ret
      exact ⟨rfl, fb_call hst.out.1.bel HC.out⟩

theorem trailOnce_own : ownKnob Try.prog.godebug = none := by kernel_rfl
theorem trailOnce_laidOut : laidOutB Try.prog = true := by kernel_rfl

set_option maxHeartbeats 1000000 in
set_option maxRecDepth 100000 in
theorem trailOnce_lifted (os : Os) (started : os.Started) (H : Type) (enc : TypeId × Value → H) :
    ReturnsInHanded {} Try.checked os 5 .any (Rows.trailOnceSpec.pre6 enc Try.prog Try.f5 Rows.trailOnceRow.domain false) (Rows.trailOnceSpec.post enc Try.prog Try.f5 false true false false) := by
  refine returnsInHanded_of_change (C := Try.checked) trailOnce_own started (by kernel_rfl) Try.func5
    (ChangeSpec.witness6 (enc := enc) (C := Try.checked) false ⟨#[], #[.slice none 0 0], []⟩ 8 (by kernel_rfl) (by kernel_rfl) (by kernel_rfl) (by kernel_rfl)) ?_
  intro W base args ds gs before hval0 hW hcnd _
  have hval : ∀ (j : Nat) t v, Try.f5.params[j]? = some t → args[j]? = some v → Value.okWide Try.prog W .any base t v := hval0
  have hW' := hW
  obtain ⟨p, q, hA0, hV, rfl, hfz, hnd⟩ := hW
  have hA : DataW.TrodAll enc Try.prog W 0 (fun _ => true) true Try.f5.params.toList args.toList ds p := hA0
  rw [Try.params5] at hA hval
  obtain ⟨v0, vs0, d0, ds0, p0, q0, hargs, rfl, rfl, h0, r0⟩ := trodAll_cons hA
  obtain ⟨rfl, rfl, rfl⟩ := trodAll_nil r0
  obtain rfl : args = #[v0] := by cases args; simp_all
  obtain ⟨rfl, rfl⟩ := trodVars_none hV
  have k0 := h0
  have lt0 : ∀ x ∈ p0, x.block < W.heap.size := by obtain ⟨m, hm⟩ := k0; exact DataW.trod_lt m _ _ _ hm
  obtain ⟨a, n, c, F, rfl, hln, hmn, hrn⟩ := open_rows Try.underlying38 Try.underlying45 Try.underlying5 (by kernel_rfl) (by kernel_rfl) (by decide) (hval 0 38 v0 rfl rfl) h0
  clear hA0 hval0
  refine (trailOnce_walk a n c F W hrn (by have := hmn; unfold maxLen at this; omega)).mono fun e W' ⟨he, bel⟩ => ?_
  subst he
  exact ⟨_, rfl, _, _, _, [], _, [], hW', trodAll_mk1 (shut_bool Try.underlying4 _), (trodAll_cons_mk (Below.trod trailOnce_laidOut (by kernel_rfl) (of_decide_eq_true (by kernel_rfl)) k0 bel lt0) trodAll_mk0), rfl, bel.frame _, fun h => by cases h⟩

theorem trailOnce_over : Rows.trailOnceRow.holds Try.pinned (OpenSpec.ofChange Rows.trailOnceSpec) :=
  OpenClaim.holds_of_wide 5 Try.f5 rfl rfl rfl rfl rfl rfl rfl ⟨rfl, rfl, rfl, rfl, rfl⟩ rfl rfl rfl rfl rfl (by kernel_rfl) Try.func5 (by kernel_rfl)
    (of_decide_eq_true (by kernel_rfl)) (by unfold Func.isWrapper; first | (rw [if_pos (by decide +kernel)]; kernel_rfl) | (rw [if_neg (by decide +kernel)]; exact ⟨rfl, rfl⟩))
    (fun os started H enc _ => trailOnce_lifted os started H enc)

/-- The statement. -/
theorem trailOnce_holds : Rows.TrailOnceSaid := trailOnce_over
#print axioms trailOnce_holds
end Go.Proofs.Ytfkkkndigkchcaa
