/- A number's bytes, a signed one's, and a text's, are as the document says. No condition. -/
import Derived.Test.YtjfdmbbhpabgnaaWireWorks
import Derived.ChangeMaps5
namespace Go.Proofs.Ytjfdmbbhpabgnaa
open Go.ChangeMaps Go.ChangeShapes Go.WideShapes Go.ChangeAt Go.RowKit

set_option maxHeartbeats 1000000 in
theorem wireSorts_walk (n : Nat) (i : Int) (t : ByteArray) (w : World) (hn : n < 2 ^ 64) (h1 : -9223372036854775808 ≤ i) (h2 : i ≤ 9223372036854775807) (_ht : t.size ≤ 9223372036854775807) :
    Calls Try.prog 3 #[.int .u64 n, .int .i64 i, .string t] w fun e w' => e = .returned (.bool true) ∧ Below w.heap.size w w' := by
  go_enter Try.func3, Try.ntmps3
  go_wp2_with fail
  obtain ⟨t2, ht2⟩ : ∃ t2, t.extract 0 (min (t.size : Int) 700).toNat = t2 := ⟨_, rfl⟩
  have hl2 : t2.size ≤ 700 := by rw [← ht2, ByteArray.size_extract]; omega
  obtain ⟨s, hs2⟩ : ∃ s, t2.extract 0 (min ((min (min (t.size : Int) 700).toNat t.size : Nat) : Int) 20).toNat = s := ⟨_, rfl⟩
  have hl3 : s.size ≤ 20 := by rw [← hs2, ByteArray.size_extract]; omega
  rw [ht2, hs2]
  clear ht2 hs2
  refine (put_any s n _ (by omega) hn).mono ?_
  rintro e w1 ⟨rfl, hb⟩
  have HB1 := Lib.hid hb
  clear hb
  go_wp2_with fail
  refine (rput_any s n _ (by omega) hn).mono ?_
  rintro e w2 ⟨rfl, hb⟩
  have HB2 := Lib.hid hb
  clear hb
  go_wp2_with fail
  refine (putInt_any s i _ (by omega) h1 h2).mono ?_
  rintro e w3 ⟨rfl, hb⟩
  have HB3 := Lib.hid hb
  clear hb
  go_wp2_with fail
  refine (rputInt_any s i _ (by omega) h1 h2).mono ?_
  rintro e w4 ⟨rfl, hb⟩
  have HB4 := Lib.hid hb
  clear hb
  go_wp2_with fail
  refine (putText_any s t2 _ (by omega) (by omega)).mono ?_
  rintro e w5 ⟨rfl, hb⟩
  have HB5 := Lib.hid hb
  clear hb
  go_wp2_with fail
  refine (rputText_any s t2 _ (by omega) (by omega)).mono ?_
  rintro e w6 ⟨rfl, hb⟩
  have HB6 := Lib.hid hb
  clear hb
  go_wp2_with fail
  refine (works_any _).mono ?_
  rintro e w7 ⟨rfl, hb⟩
  have HB7 := Lib.hid hb
  clear hb
  go_wp2
  go_ret
  exact ⟨rfl, fb_call (fb_call (fb_call (fb_call (fb_call (fb_call (fb_call (Below.refl _ _) HB1.out) HB2.out) HB3.out) HB4.out) HB5.out) HB6.out) HB7.out⟩

theorem wireSorts_own : ownKnob Try.prog.godebug = none := by kernel_rfl
theorem wireSorts_laidOut : laidOutB Try.prog = true := by kernel_rfl

set_option maxHeartbeats 1000000 in
set_option maxRecDepth 100000 in
theorem wireSorts_lifted (os : Os) (started : os.Started) (H : Type) (enc : TypeId × Value → H) :
    ReturnsInHanded {} Try.checked os 3 .any (Rows.wireSortsSpec.pre6 enc Try.prog Try.f3 Rows.wireSortsRow.domain false) (Rows.wireSortsSpec.post enc Try.prog Try.f3 false true false false) := by
  refine returnsInHanded_of_change (C := Try.checked) wireSorts_own started (by kernel_rfl) Try.func3
    (ChangeSpec.witness6 (enc := enc) (C := Try.checked) false ⟨#[], #[.int .u64 0, .int .i64 0, .string ByteArray.empty], []⟩ 8 (by kernel_rfl) (by kernel_rfl) (by kernel_rfl) (by kernel_rfl)) ?_
  intro W base args ds gs before hval0 hW hcnd _
  have hval : ∀ (j : Nat) t v, Try.f3.params[j]? = some t → args[j]? = some v → Value.okWide Try.prog W .any base t v := hval0
  have hW' := hW
  obtain ⟨p, q, hA0, hV, rfl, hfz, hnd⟩ := hW
  have hA : DataW.TrodAll enc Try.prog W 0 (fun _ => true) true Try.f3.params.toList args.toList ds p := hA0
  rw [Try.params3] at hA hval
  obtain ⟨v0, vs0, d0, ds0, p0, q0, hargs, rfl, rfl, h0, r0⟩ := trodAll_cons hA
  obtain ⟨v1, vs1, d1, ds1, p1, q1, rfl, rfl, rfl, h1, r1⟩ := trodAll_cons r0
  obtain ⟨v2, vs2, d2, ds2, p2, q2, rfl, rfl, rfl, h2, r2⟩ := trodAll_cons r1
  obtain ⟨rfl, rfl, rfl⟩ := trodAll_nil r2
  obtain rfl : args = #[v0, v1, v2] := by cases args; simp_all
  obtain ⟨rfl, rfl⟩ := trodVars_none hV
  have k0 := h0
  have lt0 : ∀ x ∈ p0, x.block < W.heap.size := by obtain ⟨m, hm⟩ := k0; exact DataW.trod_lt m _ _ _ hm
  obtain ⟨xn, rfl, en1, en2, wfn⟩ := open_int Try.underlying22 (hval 0 22 v0 rfl rfl) h0
  have bn := wf_u64a wfn
  obtain ⟨n, rfl⟩ := Int.eq_ofNat_of_zero_le bn.1
  have k1 := h1
  have lt1 : ∀ x ∈ p1, x.block < W.heap.size := by obtain ⟨m, hm⟩ := k1; exact DataW.trod_lt m _ _ _ hm
  obtain ⟨i, rfl, ei1, ei2, wfi⟩ := open_int Try.underlying3 (hval 1 3 v1 rfl rfl) h1
  have bi := wf_i64a wfi
  have k2 := h2
  have lt2 : ∀ x ∈ p2, x.block < W.heap.size := by obtain ⟨m, hm⟩ := k2; exact DataW.trod_lt m _ _ _ hm
  obtain ⟨t, rfl, et1, et2, wst⟩ := open_string Try.underlying9 (hval 2 9 v2 rfl rfl) h2
  unfold maxLen at wst
  clear hA0 hval0
  refine (wireSorts_walk n i t W (by omega) bi.1 bi.2 (by omega)).mono fun e W' ⟨he, bel⟩ => ?_
  subst he
  exact ⟨_, rfl, _, _, _, [], _, [], hW', trodAll_mk1 (shut_bool Try.underlying4 _), (trodAll_cons_mk (Below.trod wireSorts_laidOut (by kernel_rfl) (of_decide_eq_true (by kernel_rfl)) k0 bel lt0) (trodAll_cons_mk (Below.trod wireSorts_laidOut (by kernel_rfl) (of_decide_eq_true (by kernel_rfl)) k1 bel lt1) (trodAll_cons_mk (Below.trod wireSorts_laidOut (by kernel_rfl) (of_decide_eq_true (by kernel_rfl)) k2 bel lt2) trodAll_mk0))), rfl, bel.frame _, fun h => by cases h⟩

theorem wireSorts_over : Rows.wireSortsRow.holds Try.pinned (OpenSpec.ofChange Rows.wireSortsSpec) :=
  OpenClaim.holds_of_wide 3 Try.f3 rfl rfl rfl rfl rfl rfl rfl ⟨rfl, rfl, rfl, rfl, rfl⟩ rfl rfl rfl rfl rfl (by kernel_rfl) Try.func3 (by kernel_rfl)
    (of_decide_eq_true (by kernel_rfl)) (by unfold Func.isWrapper; first | (rw [if_pos (by decide +kernel)]; kernel_rfl) | (rw [if_neg (by decide +kernel)]; exact ⟨rfl, rfl⟩))
    (fun os started H enc _ => wireSorts_lifted os started H enc)

/-- The statement. -/
theorem wireSorts_holds : Rows.WireSortsSaid := wireSorts_over
#print axioms wireSorts_holds
end Go.Proofs.Ytjfdmbbhpabgnaa
