/- The contracts of both readers, over what is read; and works. No condition. -/
import Derived.Test.YtjfdmbbhpabgnaaWireRR
import Derived.Laws.DeepNot64
namespace Go.Proofs.Ytjfdmbbhpabgnaa
open Go.RowKit

theorem lft_nil (s : ByteArray) (a : Nat) (h : s.size ≤ a) : lft s a = [] := by
  unfold lft
  exact List.drop_eq_nil_of_le (by rw [Array.length_toList]; exact h)
theorem lft_cons (s : ByteArray) (a : Nat) (h : a < s.size) : lft s a = s[a] :: s.data.toList.drop (a + 1) := by
  unfold lft
  rw [List.drop_eq_getElem_cons (by rw [Array.length_toList]; exact h)]
  rfl
theorem lft_len (s : ByteArray) (a : Nat) : (s.data.toList.drop (a + 1)).length = s.size - (a + 1) := by rw [List.length_drop, Array.length_toList]; rfl
/-- What a reader's call leaves: it reads a number, or stops. -/
def NumR (A : Nat) (s : ByteArray) (at_ : Nat) (st : Bool) (w : World) (e : Ending) (w' : World) : Prop :=
  (rd (lft s at_) = none ∧ e = .returned (.int .u64 0) ∧ RdA w' A s s.size true ∧ Moved w w' (fun k => k = A)) ∨
    ∃ n m : Nat, rd (lft s at_) = some (n, m) ∧ e = .returned (.int .u64 n) ∧ RdA w' A s (at_ + m) st ∧ Moved w w' (fun k => k = A)
theorem num_any (A : Nat) (s : ByteArray) (at_ : Nat) (st : Bool) (w : World) (h : RdA w A s at_ st) (hs : s.size ≤ 1000000) (ha : at_ ≤ s.size) :
    Calls Try.prog 17 #[.pointer (some ⟨A, 0, none⟩)] w (NumR A s at_ st w) := by
  by_cases h0 : s.size ≤ at_
  · refine (num_stop A s at_ st w h hs h0 (by omega)).mono fun e w' ⟨h1, h2, h3⟩ => .inl ⟨by rw [lft_nil s at_ h0]; rfl, h1, h2, h3⟩
  · have hlt : at_ < s.size := by omega
    obtain ⟨k, hk⟩ : ∃ k, lead (s[at_]).toNat = k := ⟨_, rfl⟩
    have hr : rd (lft s at_) = if s.size - (at_ + 1) < k then none else if 0 < k ∧ num ((s[at_]).toNat - ones k) ((s.data.toList.drop (at_ + 1)).take k) < 2 ^ (7 * k) then none else some (num ((s[at_]).toNat - ones k) ((s.data.toList.drop (at_ + 1)).take k), 1 + k) := by
      rw [lft_cons s at_ hlt]; unfold rd; simp only [lft_len, hk]
    by_cases hsh : s.size ≤ at_ + k
    · refine (num_short A s at_ k st w h hs hlt hk hsh).mono fun e w' ⟨h1, h2, h3⟩ => .inl ⟨by rw [hr, if_pos (by omega)], h1, h2, h3⟩
    · refine (num_long A s at_ k st w h hs hlt hk (by omega)).mono fun e w' h1 => ?_
      rw [if_neg (by omega)] at hr
      rcases h1 with ⟨h1, h2, h3, h4⟩ | ⟨h1, h2, h3, h4⟩
      · exact .inl ⟨by rw [hr, if_pos h1], h2, h3, h4⟩
      · exact .inr ⟨_, _, by rw [hr, if_neg h1], h2, h3, h4⟩
def RNumR (R : Nat) (s : ByteArray) (bad : Bool) (w : World) (e : Ending) (w' : World) : Prop :=
  (rd (lft s 0) = none ∧ e = .returned (.int .u64 0) ∧ RdR w' R ⟨#[]⟩ true ∧ Moved w w' (fun k => k = R)) ∨
    ∃ n m : Nat, rd (lft s 0) = some (n, m) ∧ e = .returned (.int .u64 n) ∧ RdR w' R (s.extract m s.size) bad ∧ Moved w w' (fun k => k = R)
theorem rnum_any (R : Nat) (s : ByteArray) (bad : Bool) (w : World) (h : RdR w R s bad) (hs : s.size ≤ 1000000) :
    Calls Try.prog 18 #[.pointer (some ⟨R, 0, none⟩)] w (RNumR R s bad w) := by
  by_cases h0 : s.size ≤ 0
  · have hs0 : s = ⟨#[]⟩ := by
      apply ByteArray.ext
      exact Array.eq_empty_of_size_eq_zero (by have : s.size = s.data.size := rfl; omega)
    refine (rnum_empty R s bad w h hs0).mono fun e w' ⟨h1, h2, h3⟩ => .inl ⟨by rw [lft_nil s 0 h0]; rfl, h1, h2, h3⟩
  · have hlt : 0 < s.size := by omega
    obtain ⟨k, hk⟩ : ∃ k, lead (s[0]).toNat = k := ⟨_, rfl⟩
    have hr : rd (lft s 0) = if s.size - 1 < k then none else if 0 < k ∧ num ((s[0]).toNat - ones k) ((s.data.toList.drop 1).take k) < 2 ^ (7 * k) then none else some (num ((s[0]).toNat - ones k) ((s.data.toList.drop 1).take k), 1 + k) := by
      rw [lft_cons s 0 hlt]; unfold rd; simp only [Nat.zero_add, lft_len s 0, hk]
    refine (rnum_full R s bad w h hs hlt k hk).mono fun e w' h1 => ?_
    rcases h1 with ⟨h1, h2, h3, h4⟩ | ⟨⟨h1, h1'⟩, h2, h3, h4⟩
    · refine .inl ⟨?_, h2, h3, h4⟩
      rw [hr]
      by_cases hq : s.size - 1 < k
      · rw [if_pos hq]
      · rw [if_neg hq, if_pos (h1.resolve_left (by omega))]
    · exact .inr ⟨_, _, by rw [hr, if_neg (by omega), if_neg h1'], h2, h3, h4⟩
/-- What both say of a signed one. -/
theorem int_bits (n : Nat) (hn : n < 2 ^ 64) : bits BinOp.xor IntKind.i64 ((n : Int) / 2) (wrap64 (-wrap64 (bits BinOp.and IntKind.u64 (n : Int) 1))) = unzz n := by
  have e1 : bits BinOp.and IntKind.u64 (n : Int) 1 = ((n % 2 : Nat) : Int) := by
    have := u64_and_nat n 1 (by omega) (by omega)
    rw [nat_mask1] at this
    exact this
  have e2 : (n : Int) / 2 = ((n / 2 : Nat) : Int) := by omega
  have hm := Nat.mod_lt n (show 0 < 2 by omega)
  rw [e1, e2]
  unfold unzz
  by_cases h : n % 2 = 1
  · rw [if_pos h, h, show wrap64 (-wrap64 ((1 : Nat) : Int)) = -1 by unfold wrap64; omega]
    have hc : bits BinOp.xor IntKind.i64 ((n / 2 : Nat) : Int) (-1) = bits BinOp.xor IntKind.i64 (-1) ((n / 2 : Nat) : Int) := by
      show IntKind.i64.wrap ((BitVec.ofInt 64 ((n / 2 : Nat) : Int) ^^^ BitVec.ofInt 64 (-1)).toNat : Int) = IntKind.i64.wrap ((BitVec.ofInt 64 (-1) ^^^ BitVec.ofInt 64 ((n / 2 : Nat) : Int)).toNat : Int)
      rw [BitVec.xor_comm]
    rw [hc, i64_not _ (by omega)]
    omega
  · have h0 : n % 2 = 0 := by omega
    rw [if_neg h, h0, show wrap64 (-wrap64 ((0 : Nat) : Int)) = 0 by unfold wrap64; omega]
    show IntKind.i64.wrap ((BitVec.ofInt 64 ((n / 2 : Nat) : Int) ^^^ BitVec.ofInt 64 0).toNat : Int) = _
    have hz : BitVec.ofInt 64 0 = 0#64 := by decide
    rw [hz, BitVec.xor_zero, ofInt_u64 _ (by omega)]
    exact IntWalk.i64_in _ (by omega)
/-- A call that returns a number. -/
def NatRet (Q : Nat → World → Prop) (e : Ending) (w' : World) : Prop := ∃ n : Nat, n < 2 ^ 64 ∧ e = .returned (.int .u64 n) ∧ Q n w'
def IntRet (Q : Nat → World → Prop) (e : Ending) (w' : World) : Prop := ∃ n : Nat, n < 2 ^ 64 ∧ e = .returned (.int .i64 (unzz n)) ∧ Q n w'
theorem int_any (A : Nat) (w : World) (Q : Nat → World → Prop) (h : Calls Try.prog 17 #[.pointer (some ⟨A, 0, none⟩)] w (NatRet Q)) :
    Calls Try.prog 19 #[.pointer (some ⟨A, 0, none⟩)] w (IntRet Q) := by
  have H := Lib.hid h
  clear h
  go_enter Try.func19, Try.ntmps19
  go_wp2_with (go_at_call 17; refine H.out.mono ?_; rintro e w' ⟨n, hn, rfl, hq⟩; have HQ := Lib.hid hq; clear hq)
  go_ret
  exact ⟨n, hn, ret_i64 (int_bits n hn), HQ.out⟩
theorem int_none (w : World) (Q : Nat → World → Prop) (h : Calls Try.prog 17 #[.pointer none] w (NatRet Q)) :
    Calls Try.prog 19 #[.pointer none] w (IntRet Q) := by
  have H := Lib.hid h
  clear h
  go_enter Try.func19, Try.ntmps19
  go_wp2_with (go_at_call 17; refine H.out.mono ?_; rintro e w' ⟨n, hn, rfl, hq⟩; have HQ := Lib.hid hq; clear hq)
  go_ret
  exact ⟨n, hn, ret_i64 (int_bits n hn), HQ.out⟩
theorem rint_any (A : Nat) (w : World) (Q : Nat → World → Prop) (h : Calls Try.prog 18 #[.pointer (some ⟨A, 0, none⟩)] w (NatRet Q)) :
    Calls Try.prog 20 #[.pointer (some ⟨A, 0, none⟩)] w (IntRet Q) := by
  have H := Lib.hid h
  clear h
  go_enter Try.func20, Try.ntmps20
  go_wp2_with (go_at_call 18; refine H.out.mono ?_; rintro e w' ⟨n, hn, rfl, hq⟩; have HQ := Lib.hid hq; clear hq)
  all_goals go_ret
  · rename_i h1
    exact ⟨n, hn, ret_i64 (by unfold unzz; simp at h1; rw [if_pos (by omega)]; simp), HQ.out⟩
  · rename_i h1
    exact ⟨n, hn, ret_i64 (by unfold unzz; simp at h1; rw [if_neg (by omega)]; simp), HQ.out⟩
theorem NumR.nat {A : Nat} {s : ByteArray} {at_ : Nat} {st : Bool} {w : World} {e : Ending} {w' : World} (h : NumR A s at_ st w e w') : NatRet (fun n w' => NumR A s at_ st w (.returned (.int .u64 n)) w') e w' := by
  rcases h with ⟨h1, h2, h3, h4⟩ | ⟨n, m, h1, h2, h3, h4⟩
  · exact ⟨0, by decide, h2, .inl ⟨h1, rfl, h3, h4⟩⟩
  · exact ⟨n, (rd_some h1).1, h2, .inr ⟨n, m, h1, rfl, h3, h4⟩⟩
theorem RNumR.nat {A : Nat} {s : ByteArray} {st : Bool} {w : World} {e : Ending} {w' : World} (h : RNumR A s st w e w') : NatRet (fun n w' => RNumR A s st w (.returned (.int .u64 n)) w') e w' := by
  rcases h with ⟨h1, h2, h3, h4⟩ | ⟨n, m, h1, h2, h3, h4⟩
  · exact ⟨0, by decide, h2, .inl ⟨h1, rfl, h3, h4⟩⟩
  · exact ⟨n, (rd_some h1).1, h2, .inr ⟨n, m, h1, rfl, h3, h4⟩⟩

/-- What a reader's Text leaves. -/
def TextR (A : Nat) (s : ByteArray) (at_ : Nat) (w : World) (e : Ending) (w' : World) : Prop :=
  ((rd (lft s at_) = none ∨ ∃ n m : Nat, rd (lft s at_) = some (n, m) ∧ s.size < at_ + m + n) ∧ e = .returned (.string ⟨#[]⟩) ∧ RdA w' A s s.size true ∧ Moved w w' (fun k => k = A)) ∨
    ∃ n m : Nat, rd (lft s at_) = some (n, m) ∧ at_ + m + n ≤ s.size ∧ e = .returned (.string (s.extract (at_ + m) (at_ + m + n))) ∧ RdA w' A s (at_ + m + n) false ∧ Moved w w' (fun k => k = A)
theorem lft_len' (s : ByteArray) (a : Nat) : (lft s a).length = s.size - a := by unfold lft; rw [List.length_drop, Array.length_toList]; rfl
theorem text_none (A : Nat) (s : ByteArray) (at_ : Nat) (st : Bool) (w : World) (h : RdA w A s at_ st) (hs : s.size ≤ 1000000) (ha : at_ ≤ s.size) (hr : rd (lft s at_) = none) :
    Calls Try.prog 21 #[.pointer (some ⟨A, 0, none⟩)] w (TextR A s at_ w) := by
  have H := Lib.hid h
  have HR := Lib.hid hr
  clear h hr
  go_enter Try.func21, Try.ntmps21
  go_wp2_with fail
  refine (num_any A s at_ st _ H.out hs ha).mono ?_
  rintro e w1 (⟨h1, rfl, h3, h4⟩ | ⟨n, m, h1, _⟩)
  · have H1 := Lib.hid (And.intro h3 h4)
    clear h1 h3 h4
    go_wp2_with (go_at_call 23; refine (ok_no A s _ _ H1.out.1).mono ?_; rintro e w' ⟨rfl, rfl⟩)
    go_ret
    exact .inl ⟨.inl HR.out, rfl, H1.out⟩
  · rw [HR.out] at h1; cases h1
set_option maxHeartbeats 1000000 in
theorem text_some (A : Nat) (s : ByteArray) (at_ n m : Nat) (w : World) (h : RdA w A s at_ false) (hs : s.size ≤ 1000000) (ha : at_ ≤ s.size) (hr : rd (lft s at_) = some (n, m)) :
    Calls Try.prog 21 #[.pointer (some ⟨A, 0, none⟩)] w (TextR A s at_ w) := by
  have H := Lib.hid h
  have HR := Lib.hid hr
  obtain ⟨hn, _, _, hm⟩ := rd_some hr
  rw [lft_len'] at hm
  have hm' : at_ + m ≤ s.size := by omega
  clear h hr hm
  go_enter Try.func21, Try.ntmps21
  go_wp2_with fail
  refine (num_any A s at_ false _ H.out hs ha).mono ?_
  rintro e w1 (⟨h1, _⟩ | ⟨n', m', h1, rfl, h3, h4⟩)
  · rw [HR.out] at h1; cases h1
  · have hnm := HR.out.symm.trans h1
    simp only [Option.some.injEq, Prod.mk.injEq] at hnm
    obtain ⟨rfl, rfl⟩ := hnm
    obtain ⟨a, hae⟩ : ∃ a, at_ + m = a := ⟨_, rfl⟩
    rw [hae] at h3 hm'
    have c0 : w1.cell? ⟨A, 0, none⟩ = some (.string s) := h3.cell 0
    have c1 : w1.cell? ⟨A, 1, none⟩ = some (.int .i64 (a : Int)) := h3.cell 1
    have f0 := h3.frozen 0
    have f1 := h3.frozen 1
    have H1 := Lib.hid (And.intro h3 (And.intro h4 hae))
    clear h1 h3 h4 hae ha
    go_wp2_with (go_at_call 23; refine (ok_yes A s _ _ H1.out.1).mono ?_; rintro e w' ⟨rfl, rfl⟩)
    have q1 : IntKind.i64.wrap ((s.size : Int) - a) = (s.size : Int) - a := IntWalk.i64_in _ (by omega)
    have q2 : IntKind.u64.wrap ((s.size : Int) - a) = (s.size : Int) - a := IntWalk.u64_in _ (by omega)
    by_cases hgt : s.size < a + n
    · have hgt' : (s.size : Int) - a < n := by omega
      go_quiet (fail)
      clear q1 q2
      go_wp2_with (go_at_call 32; refine (stop_any A s a false _ (H1.out.1.drewN _)).mono ?_; rintro e w3 ⟨rfl, h5, m5⟩; have H5 := Lib.hid (And.intro h5 m5); clear h5 m5)
      go_ret
      exact .inl ⟨.inr ⟨n, m, HR.out, by rw [H1.out.2.2]; exact hgt⟩, rfl, H5.out.1, H1.out.2.1.trans ((Moved.of_drewN _ _ _).trans H5.out.2 (fun _ hk => .inl hk)) (fun _ hk => .inl hk)⟩
    · have hgt' : ¬ (s.size : Int) - a < n := by omega
      have b1 : (a : Int) ≤ (a : Int) + n := by omega
      have b2 : (a : Int) + n ≤ s.size := by omega
      go_quiet (fail)
      clear q1 q2
      go_wp2
      go_quiet (fail)
      go_wp2
      go_ret
      refine .inr ⟨n, m, HR.out, by rw [H1.out.2.2]; omega, by rw [H1.out.2.2]; rfl, ?_, ?_⟩
      · rw [H1.out.2.2]
        refine RdA.drewN (RdA.drewN ?_ _) _
        have := H1.out.1.set 1 (.int .i64 (a + n))
        simpa [RdA] using this
      · exact ((H1.out.2.1.trans (Moved.of_set _ _ _ (S := fun k => k = A) rfl) (fun _ hk => .inl hk)).trans (Moved.of_drewN _ _ (fun k => k = A)) (fun _ hk => .inl hk)).trans (Moved.of_drewN _ _ _) (fun _ hk => .inl hk)
theorem rtext_none (R : Nat) (s : ByteArray) (bad : Bool) (w : World) (h : RdR w R s bad) (hs : s.size ≤ 1000000) (hr : rd (lft s 0) = none) :
    Calls Try.prog 22 #[.pointer (some ⟨R, 0, none⟩)] w fun e w' => e = .returned (.string ⟨#[]⟩) ∧ RdR w' R ⟨#[]⟩ true ∧ Moved w w' (fun k => k = R) := by
  have H := Lib.hid h
  have HR := Lib.hid hr
  clear h hr
  go_enter Try.func22, Try.ntmps22
  go_wp2_with fail
  refine (rnum_any R s bad _ H.out hs).mono ?_
  rintro e w1 (⟨h1, rfl, h3, h4⟩ | ⟨n, m, h1, _⟩)
  · have c1 : w1.cell? ⟨R, 1, none⟩ = some (.bool true) := h3.cell 1
    have H1 := Lib.hid (And.intro h3 h4)
    clear h1 h3 h4
    go_wp2_with (go_at_call 33; refine (rstop_any R _ true _ H1.out.1).mono ?_; rintro e w3 ⟨rfl, h5, m5⟩; have H5 := Lib.hid (And.intro h5 m5); clear h5 m5)
    go_ret
    exact ⟨rfl, H5.out.1, H1.out.2.trans H5.out.2 (fun _ hk => .inl hk)⟩
  · rw [HR.out] at h1; cases h1
/-- What the document's Text leaves. -/
def RTextR (R : Nat) (t : ByteArray) (n : Nat) (w : World) (e : Ending) (w' : World) : Prop :=
  (t.size < n ∧ e = .returned (.string ⟨#[]⟩) ∧ RdR w' R ⟨#[]⟩ true ∧ Moved w w' (fun k => k = R)) ∨
    (n ≤ t.size ∧ e = .returned (.string (t.extract 0 n)) ∧ RdR w' R (t.extract n t.size) false ∧ Moved w w' (fun k => k = R))
set_option maxHeartbeats 1000000 in
theorem rtext_some (R : Nat) (s : ByteArray) (n m : Nat) (w : World) (h : RdR w R s false) (hs : s.size ≤ 1000000) (hr : rd (lft s 0) = some (n, m)) :
    Calls Try.prog 22 #[.pointer (some ⟨R, 0, none⟩)] w (RTextR R (s.extract m s.size) n w) := by
  have H := Lib.hid h
  have HR := Lib.hid hr
  have hn := (rd_some hr).1
  clear h hr
  go_enter Try.func22, Try.ntmps22
  go_wp2_with fail
  refine (rnum_any R s false _ H.out hs).mono ?_
  rintro e w1 (⟨h1, _⟩ | ⟨n', m', h1, rfl, h3, h4⟩)
  · rw [HR.out] at h1; cases h1
  · have hnm := HR.out.symm.trans h1
    simp only [Option.some.injEq, Prod.mk.injEq] at hnm
    obtain ⟨rfl, rfl⟩ := hnm
    have hts : (s.extract m s.size).size ≤ s.size := by simp
    generalize s.extract m s.size = t at *
    have c0 : w1.cell? ⟨R, 0, none⟩ = some (.string t) := h3.cell 0
    have c1 : w1.cell? ⟨R, 1, none⟩ = some (.bool false) := h3.cell 1
    have f0 := h3.frozen 0
    have H1 := Lib.hid (And.intro h3 h4)
    clear h1 h3 h4
    by_cases hgt : t.size < n
    · have hgt' : (t.size : Int) < n := by omega
      go_wp2_with (go_at_call 33; refine (rstop_any R _ false _ H1.out.1).mono ?_; rintro e w3 ⟨rfl, h5, m5⟩; have H5 := Lib.hid (And.intro h5 m5); clear h5 m5)
      go_ret
      exact .inl ⟨hgt, rfl, H5.out.1, H1.out.2.trans H5.out.2 (fun _ hk => .inl hk)⟩
    · have hgt' : ¬ (t.size : Int) < n := by omega
      go_wp2
      go_ret
      exact .inr ⟨by omega, rfl, H1.out.1.set 0 _, H1.out.2.trans (Moved.of_set _ _ _ (S := fun k => k = R) rfl) (fun _ hk => .inl hk)⟩
end Go.Proofs.Ytjfdmbbhpabgnaa
