/- A signed number and the one on the other side of 0 have as many bytes, and other ones; the farther from 0, the more; all come again. No condition. -/
import Derived.Test.YtjfdmbbhpabgnaaWireWorks
import Derived.ChangeMaps5
namespace Go.Proofs.Ytjfdmbbhpabgnaa
open Go.ChangeMaps Go.ChangeShapes Go.WideShapes Go.ChangeAt Go.RowKit

theorem nil_app (b : ByteArray) : (⟨#[]⟩ : ByteArray) ++ b = b := by
  apply ByteArray.ext; simp
theorem not_i64 (a : Int) (h1 : -9223372036854775808 ≤ a) (h2 : a ≤ 9223372036854775807) : bits BinOp.xor IntKind.i64 (-1) a = -a - 1 := by
  show IntKind.i64.wrap ((BitVec.ofInt 64 (-1) ^^^ BitVec.ofInt 64 a).toNat : Int) = _
  have h1 : BitVec.ofInt 64 (-1) = BitVec.allOnes 64 := by decide
  rw [h1, BitVec.allOnes_xor, BitVec.toNat_not, BitVec.toNat_ofInt]
  simp [IntKind.wrap, IntKind.bits, IntKind.signed]
  omega
theorem lft_app (a b : List UInt8) : lft (str (a ++ b)) a.length = b := by simp [lft, str]
theorem lft_str (a : List UInt8) : lft (str a) 0 = a := by simp [lft, str]
set_option maxHeartbeats 1000000 in
set_option maxRecDepth 100000 in
theorem wireSign_walk (a b : Int) (w : World) (h1 : -9223372036854775808 ≤ a) (h2 : a ≤ 9223372036854775807) (h3 : -9223372036854775808 ≤ b) (h4 : b ≤ 9223372036854775807) :
    Calls Try.prog 6 #[.int .i64 a, .int .i64 b] w fun e w' => e = .returned (.bool true) ∧ Below w.heap.size w w' := by
  have hna := not_i64 a h1 h2
  have hnb := not_i64 b h3 h4
  have g1 := srt_zz_not a h1 h2
  have g2 := srt_zz_mono a b h1 h2 h3 h4
  have g3 := srt_zz_mono b a h3 h4 h1 h2
  have g4 : row (zz a) ≠ row (zz (-a - 1)) := fun h => by
    have := row_inj (zz_lt a h1 h2) (zz_lt (-a - 1) (by omega) (by omega)) h
    have := congrArg unzz this
    rw [unzz_zz, unzz_zz] at this
    omega
  have z1 := zz_lt a h1 h2
  have z2 := zz_lt (-a - 1) (by omega) (by omega)
  have z3 := zz_lt b h3 h4
  have r1 := rd_row (zz a) (row (zz (-a - 1)) ++ row (zz b)) z1
  have r2 := rd_row (zz (-a - 1)) (row (zz b)) z2
  have r3 := rd_row (zz b) [] z3
  obtain ⟨na, hn⟩ : ∃ na, -a - 1 = na := ⟨_, rfl⟩
  obtain ⟨nb, hm⟩ : ∃ nb, -b - 1 = nb := ⟨_, rfl⟩
  rw [hn] at hna g1 g2 g3 g4 z2 r1 r2
  rw [hm] at hnb g2 g3
  have b1 : -9223372036854775808 ≤ na := by omega
  have b2 : na ≤ 9223372036854775807 := by omega
  have u1 := unzz_zz a
  have u2 := unzz_zz na
  have u3 := unzz_zz b
  have l1 := row_len (zz a)
  have l2 := row_len (zz na)
  have l3 := row_len (zz b)
  have s1 := srt_le (zz a)
  have s3 := srt_le (zz b)
  rw [g1] at l2
  obtain ⟨f, hf⟩ : ∃ f, max a na = f := ⟨_, rfl⟩
  obtain ⟨g, hg⟩ : ∃ g, max b nb = g := ⟨_, rfl⟩
  rw [hf, hg] at g2 g3
  obtain ⟨x, hx⟩ : ∃ x, row (zz a) = x := ⟨_, rfl⟩
  obtain ⟨y, hy⟩ : ∃ y, row (zz na) = y := ⟨_, rfl⟩
  obtain ⟨z, hz⟩ : ∃ z, row (zz b) = z := ⟨_, rfl⟩
  rw [hx] at l1 g4 r1
  rw [hy] at l2 g4 r1 r2
  rw [hz] at l3 r1 r2 r3
  have lxy : (x.length : Int) = y.length := by omega
  have hne : ((str x).toList == (str y).toList) = false := by
    rw [beq_eq_false_iff_ne, ByteArray.toList_eq, ByteArray.toList_eq]
    intro h
    exact g4 (by simpa [str] using h)
  have hcmp : (g < f ∧ z.length ≤ x.length) ∨ (f < g ∧ x.length ≤ z.length) ∨ f = g := by
    rcases Int.lt_trichotomy f g with h | h | h
    · exact .inr (.inl ⟨h, by have := g2 (by omega); omega⟩)
    · exact .inr (.inr h)
    · exact .inl ⟨h, by have := g3 (by omega); omega⟩
  have t1 : x.length ≤ 9 := by omega
  have t2 : y.length ≤ 9 := by omega
  have t3 : z.length ≤ 9 := by omega
  have HR := Lib.hid (And.intro r1 (And.intro r2 (And.intro r3 (And.intro u1 (And.intro u2 u3)))))
  have HX := Lib.hid (And.intro hx (And.intro hy hz))
  clear g1 g2 g3 g4 z1 z2 z3 r1 r2 r3 hn hm u1 u2 u3 l1 l2 l3 s1 s3 hx hy hz
  rcases hcmp with ⟨c1, c2⟩ | ⟨c1, c2⟩ | rfl
  all_goals
    go_enter Try.func6, Try.ntmps6
    go_wp2_with fail
    refine (putInt_any ⟨#[]⟩ a _ (by decide) h1 h2).mono ?_
    rintro e w1 ⟨rfl, hb1⟩
    rw [nil_app, HX.out.1]
    have HB1 := Lib.hid hb1
    clear hb1
    go_wp2_with fail
    refine (putInt_any ⟨#[]⟩ na _ (by decide) b1 b2).mono ?_
    rintro e w2 ⟨rfl, hb2⟩
    rw [nil_app, HX.out.2.1]
    have HB2 := Lib.hid (fb_call HB1.out hb2)
    clear hb2
    go_wp2_with fail
    refine (putInt_any ⟨#[]⟩ b _ (by decide) h3 h4).mono ?_
    rintro e w3 ⟨rfl, hb3⟩
    rw [nil_app, HX.out.2.2]
    have HB3 := Lib.hid (fb_call HB2.out hb3)
    clear hb3
    go_wp2_with fail
    rw [str_app, str_app]
    refine (newReader_any (str (x ++ y ++ z)) _).mono ?_
    rintro e w4 ⟨rfl, hw⟩
    have HR0 : Hid (RdA w4 w3.heap.size (str (x ++ y ++ z)) 0 false ∧ Below w.heap.size w w4) := by rw [← hw]; exact ⟨Arr.new w3 57 _, fb_alloc HB3.out _⟩
    clear hw
    have hsz : (str (x ++ y ++ z)).size = x.length + y.length + z.length := by rw [str_size]; simp; omega
    have HS := Lib.hid hsz
    clear hsz
    go_wp2_with fail
    refine (int_at HR0.out.1 (by rw [HS.out]; omega) (by omega) (n := zz a) (m := x.length) (by rw [lft_str, List.append_assoc]; exact HR.out.1)).mono ?_
    rintro e w5 ⟨rfl, q1, m1⟩
    rw [HR.out.2.2.2.1]
    have HR1 := Lib.hid (And.intro q1 (bel_moved HR0.out.2 m1 HB3.out.size))
    clear q1 m1
    go_wp2_with fail
    refine (int_at HR1.out.1 (by rw [HS.out]; omega) (by rw [HS.out]; omega) (n := zz na) (m := y.length) (by rw [List.append_assoc, Nat.zero_add, lft_app]; exact HR.out.2.1)).mono ?_
    rintro e w6 ⟨rfl, q1, m1⟩
    rw [HR.out.2.2.2.2.1]
    have HR2 := Lib.hid (And.intro q1 (bel_moved HR1.out.2 m1 HB3.out.size))
    clear q1 m1
    go_wp2_with fail
    refine (int_at HR2.out.1 (by rw [HS.out]; omega) (by rw [HS.out]; omega) (n := zz b) (m := z.length) (by rw [Nat.zero_add, ← List.length_append, lft_app]; simpa using HR.out.2.2.1)).mono ?_
    rintro e w7 ⟨rfl, q1, m1⟩
    rw [HR.out.2.2.2.2.2]
    have HR3 : Hid (RdA w7 w3.heap.size (str (x ++ y ++ z)) (str (x ++ y ++ z)).size false ∧ Below w.heap.size w w7) := ⟨by rw [HS.out]; simpa using q1, bel_moved HR2.out.2 m1 HB3.out.size⟩
    clear q1 m1
    go_wp2_with fail
    refine (end_yes HR3.out.1).mono ?_
    rintro e w8 ⟨rfl, nq, rfl⟩
    go_wp2_with fail
    refine (works_any _).mono ?_
    rintro e w9 ⟨rfl, hb9⟩
    have HB9 := Lib.hid hb9
    clear hb9
    go_wp2
    go_ret
    exact ⟨rfl, fb_call (fb_drewN HR3.out.2 _) HB9.out⟩

theorem wireSign_own : ownKnob Try.prog.godebug = none := by kernel_rfl
theorem wireSign_laidOut : laidOutB Try.prog = true := by kernel_rfl

set_option maxHeartbeats 1000000 in
set_option maxRecDepth 100000 in
theorem wireSign_lifted (os : Os) (started : os.Started) (H : Type) (enc : TypeId × Value → H) :
    ReturnsInHanded {} Try.checked os 6 .any (Rows.wireSignSpec.pre6 enc Try.prog Try.f6 Rows.wireSignRow.domain false) (Rows.wireSignSpec.post enc Try.prog Try.f6 false true false false) := by
  refine returnsInHanded_of_change (C := Try.checked) wireSign_own started (by kernel_rfl) Try.func6
    (ChangeSpec.witness6 (enc := enc) (C := Try.checked) false ⟨#[], #[.int .i64 0, .int .i64 0], []⟩ 8 (by kernel_rfl) (by kernel_rfl) (by kernel_rfl) (by kernel_rfl)) ?_
  intro W base args ds gs before hval0 hW hcnd _
  have hval : ∀ (j : Nat) t v, Try.f6.params[j]? = some t → args[j]? = some v → Value.okWide Try.prog W .any base t v := hval0
  have hW' := hW
  obtain ⟨p, q, hA0, hV, rfl, hfz, hnd⟩ := hW
  have hA : DataW.TrodAll enc Try.prog W 0 (fun _ => true) true Try.f6.params.toList args.toList ds p := hA0
  rw [Try.params6] at hA hval
  obtain ⟨v0, vs0, d0, ds0, p0, q0, hargs, rfl, rfl, h0, r0⟩ := trodAll_cons hA
  obtain ⟨v1, vs1, d1, ds1, p1, q1, rfl, rfl, rfl, h1, r1⟩ := trodAll_cons r0
  obtain ⟨rfl, rfl, rfl⟩ := trodAll_nil r1
  obtain rfl : args = #[v0, v1] := by cases args; simp_all
  obtain ⟨rfl, rfl⟩ := trodVars_none hV
  have k0 := h0
  have lt0 : ∀ x ∈ p0, x.block < W.heap.size := by obtain ⟨m, hm⟩ := k0; exact DataW.trod_lt m _ _ _ hm
  obtain ⟨a, rfl, ea1, ea2, wfa⟩ := open_int Try.underlying3 (hval 0 3 v0 rfl rfl) h0
  have ba := wf_i64a wfa
  have k1 := h1
  have lt1 : ∀ x ∈ p1, x.block < W.heap.size := by obtain ⟨m, hm⟩ := k1; exact DataW.trod_lt m _ _ _ hm
  obtain ⟨b, rfl, eb1, eb2, wfb⟩ := open_int Try.underlying3 (hval 1 3 v1 rfl rfl) h1
  have bb := wf_i64a wfb
  clear hA0 hval0
  refine (wireSign_walk a b W ba.1 ba.2 bb.1 bb.2).mono fun e W' ⟨he, bel⟩ => ?_
  subst he
  exact ⟨_, rfl, _, _, _, [], _, [], hW', trodAll_mk1 (shut_bool Try.underlying4 _), (trodAll_cons_mk (Below.trod wireSign_laidOut (by kernel_rfl) (of_decide_eq_true (by kernel_rfl)) k0 bel lt0) (trodAll_cons_mk (Below.trod wireSign_laidOut (by kernel_rfl) (of_decide_eq_true (by kernel_rfl)) k1 bel lt1) trodAll_mk0)), rfl, bel.frame _, fun h => by cases h⟩

theorem wireSign_over : Rows.wireSignRow.holds Try.pinned (OpenSpec.ofChange Rows.wireSignSpec) :=
  OpenClaim.holds_of_wide 6 Try.f6 rfl rfl rfl rfl rfl rfl rfl ⟨rfl, rfl, rfl, rfl, rfl⟩ rfl rfl rfl rfl rfl (by kernel_rfl) Try.func6 (by kernel_rfl)
    (of_decide_eq_true (by kernel_rfl)) (by unfold Func.isWrapper; first | (rw [if_pos (by decide +kernel)]; kernel_rfl) | (rw [if_neg (by decide +kernel)]; exact ⟨rfl, rfl⟩))
    (fun os started H enc _ => wireSign_lifted os started H enc)

/-- The statement. -/
theorem wireSign_holds : Rows.WireSignSaid := wireSign_over
#print axioms wireSign_holds
end Go.Proofs.Ytjfdmbbhpabgnaa
