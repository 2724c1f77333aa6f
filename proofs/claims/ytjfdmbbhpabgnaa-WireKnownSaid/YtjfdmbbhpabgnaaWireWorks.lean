/- A reader's calls where what is read is known; works. No condition. -/
import Derived.Test.YtjfdmbbhpabgnaaWireAll
namespace Go.Proofs.Ytjfdmbbhpabgnaa
open Go.RowKit

section
variable {A : Nat} {s : ByteArray} {at_ n m : Nat} {st : Bool} {w : World}
theorem num_at (h : RdA w A s at_ st) (hs : s.size ≤ 1000000) (ha : at_ ≤ s.size) (hr : rd (lft s at_) = some (n, m)) :
    Calls Try.prog 17 #[.pointer (some ⟨A, 0, none⟩)] w fun e w' => e = .returned (.int .u64 n) ∧ RdA w' A s (at_ + m) st ∧ Moved w w' (fun k => k = A) :=
  (num_any A s at_ st w h hs ha).mono fun _ _ hn => by
    rcases hn with ⟨h1, _⟩ | ⟨n', m', h1, h2, h3, h4⟩
    · rw [hr] at h1; cases h1
    · have := hr.symm.trans h1
      simp only [Option.some.injEq, Prod.mk.injEq] at this
      obtain ⟨rfl, rfl⟩ := this
      exact ⟨h2, h3, h4⟩
theorem num_bad (h : RdA w A s at_ st) (hs : s.size ≤ 1000000) (ha : at_ ≤ s.size) (hr : rd (lft s at_) = none) :
    Calls Try.prog 17 #[.pointer (some ⟨A, 0, none⟩)] w fun e w' => e = .returned (.int .u64 0) ∧ RdA w' A s s.size true ∧ Moved w w' (fun k => k = A) :=
  (num_any A s at_ st w h hs ha).mono fun _ _ hn => by
    rcases hn with ⟨h1, h2⟩ | ⟨n', m', h1, _⟩
    · exact h2
    · rw [hr] at h1; cases h1
theorem int_at (h : RdA w A s at_ st) (hs : s.size ≤ 1000000) (ha : at_ ≤ s.size) (hr : rd (lft s at_) = some (n, m)) :
    Calls Try.prog 19 #[.pointer (some ⟨A, 0, none⟩)] w fun e w' => e = .returned (.int .i64 (unzz n)) ∧ RdA w' A s (at_ + m) st ∧ Moved w w' (fun k => k = A) :=
  (int_any A w (fun n' w' => n' = n ∧ RdA w' A s (at_ + m) st ∧ Moved w w' (fun k => k = A)) ((num_at h hs ha hr).mono fun _ _ ⟨h1, h2⟩ => ⟨n, (rd_some hr).1, h1, rfl, h2⟩)).mono fun _ _ ⟨_, _, h2, h3, h4⟩ => ⟨h3 ▸ h2, h4⟩
theorem int_bad (h : RdA w A s at_ st) (hs : s.size ≤ 1000000) (ha : at_ ≤ s.size) (hr : rd (lft s at_) = none) :
    Calls Try.prog 19 #[.pointer (some ⟨A, 0, none⟩)] w fun e w' => e = .returned (.int .i64 0) ∧ RdA w' A s s.size true ∧ Moved w w' (fun k => k = A) :=
  (int_any A w (fun n' w' => n' = 0 ∧ RdA w' A s s.size true ∧ Moved w w' (fun k => k = A)) ((num_bad h hs ha hr).mono fun _ _ ⟨h1, h2⟩ => ⟨0, by decide, h1, rfl, h2⟩)).mono fun _ _ ⟨_, _, h2, h3, h4⟩ => ⟨by subst h3; exact h2, h4⟩
theorem text_at (h : RdA w A s at_ false) (hs : s.size ≤ 1000000) (ha : at_ ≤ s.size) (hr : rd (lft s at_) = some (n, m)) (hn : at_ + m + n ≤ s.size) :
    Calls Try.prog 21 #[.pointer (some ⟨A, 0, none⟩)] w fun e w' => e = .returned (.string (s.extract (at_ + m) (at_ + m + n))) ∧ RdA w' A s (at_ + m + n) false ∧ Moved w w' (fun k => k = A) :=
  (text_some A s at_ n m w h hs ha hr).mono fun _ _ ht => by
    rcases ht with ⟨h1, _⟩ | ⟨n', m', h1, h2, h3⟩
    · rcases h1 with h1 | ⟨n', m', h1, h2⟩
      · rw [hr] at h1; cases h1
      · have := hr.symm.trans h1
        simp only [Option.some.injEq, Prod.mk.injEq] at this
        omega
    · have := hr.symm.trans h1
      simp only [Option.some.injEq, Prod.mk.injEq] at this
      obtain ⟨rfl, rfl⟩ := this
      exact h3
theorem text_bad (h : RdA w A s at_ st) (hs : s.size ≤ 1000000) (ha : at_ ≤ s.size) (hr : rd (lft s at_) = none) :
    Calls Try.prog 21 #[.pointer (some ⟨A, 0, none⟩)] w fun e w' => e = .returned (.string ⟨#[]⟩) ∧ RdA w' A s s.size true ∧ Moved w w' (fun k => k = A) :=
  (text_none A s at_ st w h hs ha hr).mono fun _ _ ht => by
    rcases ht with ⟨_, h2⟩ | ⟨n', m', h1, _⟩
    · exact h2
    · rw [hr] at h1; cases h1
theorem end_yes (h : RdA w A s s.size false) :
    Calls Try.prog 25 #[.pointer (some ⟨A, 0, none⟩)] w fun e w' => e = .returned (.bool true) ∧ ∃ n, w' = w.drewN n := (end_any A s s.size false w h).mono fun _ _ ⟨h1, h2⟩ => ⟨by simpa using h1, h2⟩
end
theorem wf_u64a {x : Int} (h : (Lit.int .u64 x).wf = true) : 0 ≤ x ∧ x ≤ 18446744073709551615 := by
  simpa [Lit.wf, IntKind.min, IntKind.max, IntKind.signed, IntKind.bits] using h
theorem wf_u8a {x : Int} (h : (Lit.int .u8 x).wf = true) : 0 ≤ x ∧ x ≤ 255 := by
  simpa [Lit.wf, IntKind.min, IntKind.max, IntKind.signed, IntKind.bits] using h
theorem wf_i64a {x : Int} (h : (Lit.int .i64 x).wf = true) : -9223372036854775808 ≤ x ∧ x ≤ 9223372036854775807 := by
  simpa [Lit.wf, IntKind.min, IntKind.max, IntKind.signed, IntKind.bits] using h
/-- A reader's block is new: what was there lies as it lay. -/
theorem bel_moved {w w1 w2 : World} {A : Nat} (hb : Below w.heap.size w w1) (hm : Moved w1 w2 (fun k => k = A)) (hA : w.heap.size ≤ A) : Below w.heap.size w w2 :=
  hb.trans (hm.below (fun k hk => by omega) hb.size)
set_option maxHeartbeats 1000000 in
set_option maxRecDepth 100000 in
theorem works_any (w : World) : Calls Try.prog 15 #[] w fun e w' => e = .returned (.bool true) ∧ Below w.heap.size w w' := by
  have e1 : (⟨#[]⟩ : ByteArray) ++ str (row 300) = str [129, 44] := by decide +kernel
  have e2 : str [129, 44] ++ str (row (zz (-1))) = str [129, 44, 1] := by decide +kernel
  have e3 : str [129, 44, 1] ++ str (row 2) ++ str [97, 98] = ⟨#[129, 44, 1, 2, 97, 98]⟩ := by decide +kernel
  have E := Lib.hid (And.intro e1 (And.intro e2 e3))
  clear e1 e2 e3
  go_enter Try.func15, Try.ntmps15
  go_wp2_with fail
  refine (put_any ⟨#[]⟩ 300 _ (by decide) (by decide)).mono ?_
  rintro e w1 ⟨rfl, hb1⟩
  rw [E.out.1]
  have HB1 := Lib.hid hb1
  clear hb1
  go_wp2_with fail
  refine (putInt_any (str [129, 44]) (-1) _ (by decide) (by decide) (by decide)).mono ?_
  rintro e w2 ⟨rfl, hb2⟩
  rw [E.out.2.1]
  have HB2 := Lib.hid (fb_call HB1.out hb2)
  clear hb2
  go_wp2_with fail
  refine (putText_any (str [129, 44, 1]) (str [97, 98]) _ (by decide) (by decide)).mono ?_
  rintro e w3 ⟨rfl, hb3⟩
  rw [show (str [97, 98]).size = 2 by decide, E.out.2.2]
  have HB3 := Lib.hid (fb_call HB2.out hb3)
  clear hb3
  have g1 : rd (lft ⟨#[129, 44, 1, 2, 97, 98]⟩ 0) = some (300, 2) := by decide +kernel
  have g2 : rd (lft ⟨#[129, 44, 1, 2, 97, 98]⟩ 2) = some (1, 1) := by decide +kernel
  have g3 : rd (lft ⟨#[129, 44, 1, 2, 97, 98]⟩ 3) = some (2, 1) := by decide +kernel
  have g4 : (⟨#[129, 44, 1, 2, 97, 98]⟩ : ByteArray).extract 4 6 = ⟨#[97, 98]⟩ := by decide +kernel
  have G := Lib.hid (And.intro g1 (And.intro g2 (And.intro g3 g4)))
  clear g1 g2 g3 g4
  go_wp2_with fail
  refine (newReader_any ⟨#[129, 44, 1, 2, 97, 98]⟩ _).mono ?_
  rintro e w4 ⟨rfl, hw⟩
  have r0 : RdA w4 w3.heap.size ⟨#[129, 44, 1, 2, 97, 98]⟩ 0 false := by rw [← hw]; exact Arr.new w3 57 _
  have HR0 := Lib.hid (And.intro r0 (by rw [← hw]; exact fb_alloc HB3.out _ : Below w.heap.size w w4))
  clear r0 hw
  go_wp2_with fail
  refine (num_at HR0.out.1 (by decide) (by decide) G.out.1).mono ?_
  rintro e w5 ⟨rfl, r1, m1⟩
  have HR1 := Lib.hid (And.intro r1 (bel_moved HR0.out.2 m1 HB3.out.size))
  clear r1 m1
  go_wp2_with fail
  refine (int_at HR1.out.1 (by decide) (by decide) G.out.2.1).mono ?_
  rintro e w6 ⟨rfl, r1, m1⟩
  have HR2 := Lib.hid (And.intro r1 (bel_moved HR1.out.2 m1 HB3.out.size))
  clear r1 m1
  rw [show unzz 1 = -1 by decide]
  go_wp2_with fail
  refine (text_at HR2.out.1 (by decide) (by decide) G.out.2.2.1 (by decide)).mono ?_
  rintro e w7 ⟨rfl, r1, m1⟩
  have HR3 := Lib.hid (And.intro r1 (bel_moved HR2.out.2 m1 HB3.out.size))
  clear r1 m1
  rw [show (0 + 2 + 1 + 1 : Nat) = 4 by rfl, show (0 + 2 + 1 + 1 + 2 : Nat) = 6 by rfl, G.out.2.2.2]
  go_wp2_with fail
  refine (end_yes HR3.out.1).mono ?_
  rintro e w8 ⟨rfl, nq, rfl⟩
  go_wp2
  go_ret
  exact ⟨rfl, fb_drewN HR3.out.2 _⟩
end Go.Proofs.Ytjfdmbbhpabgnaa
