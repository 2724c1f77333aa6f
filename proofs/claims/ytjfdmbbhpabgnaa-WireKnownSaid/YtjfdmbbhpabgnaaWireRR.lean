/- Walks of the document's reader. No condition. -/
import Derived.Test.YtjfdmbbhpabgnaaWireRd
namespace Go.Proofs.Ytjfdmbbhpabgnaa
open Go.RowKit

theorem empty_size (s : ByteArray) : s.toList.isEmpty = (s.size == 0) := by
  rw [ByteArray.toList_eq, Bool.eq_iff_iff, List.isEmpty_iff, beq_iff_eq]
  constructor
  · intro h
    have := congrArg List.length h
    rw [Array.length_toList] at this
    exact this
  · intro h
    refine List.eq_nil_of_length_eq_zero ?_
    rw [Array.length_toList]
    exact h
/-- The document's reader in block R. -/
def RdR (w : World) (R : Nat) (s : ByteArray) (bad : Bool) : Prop := Arr w R 33 [.string s, .bool bad]
theorem rstop_any (R : Nat) (s : ByteArray) (bad : Bool) (w : World) (h : RdR w R s bad) : Calls Try.prog 33 #[.pointer (some ⟨R, 0, none⟩)] w fun e w' => e = .returned (.int .u64 0) ∧ RdR w' R ⟨#[]⟩ true ∧ Moved w w' (fun k => k = R) := by
  have c0 : w.cell? ⟨R, 0, none⟩ = some (.string s) := h.cell 0
  have c1 : w.cell? ⟨R, 1, none⟩ = some (.bool bad) := h.cell 1
  have f0 := h.frozen 0
  have f1 := h.frozen 1
  have H := Lib.hid h
  clear h
  go_enter Try.func33, Try.ntmps33
  go_wp2
  go_ret
  exact ⟨rfl, (H.out.set 0 _).set 1 _, (Moved.of_set _ _ _ (S := fun k => k = R) rfl).trans (Moved.of_set _ _ _ (S := fun k => k = R) rfl) (fun _ hk => .inl hk)⟩
theorem rok_any (R : Nat) (s : ByteArray) (bad : Bool) (w : World) (h : RdR w R s bad) : Calls Try.prog 24 #[.pointer (some ⟨R, 0, none⟩)] w fun e w' => e = .returned (.bool (!bad)) ∧ w = w' := by
  have c1 : w.cell? ⟨R, 1, none⟩ = some (.bool bad) := h.cell 1
  have f1 := h.frozen 1
  clear h
  go_enter Try.func24, Try.ntmps24
  go_wp2
  go_ret
  exact ⟨rfl, rfl⟩
theorem rend_any (R : Nat) (s : ByteArray) (bad : Bool) (w : World) (h : RdR w R s bad) : Calls Try.prog 26 #[.pointer (some ⟨R, 0, none⟩)] w fun e w' => e = .returned (.bool (!bad && s.size == 0)) ∧ w = w' := by
  have c0 : w.cell? ⟨R, 0, none⟩ = some (.string s) := h.cell 0
  have c1 : w.cell? ⟨R, 1, none⟩ = some (.bool bad) := h.cell 1
  have f0 := h.frozen 0
  have f1 := h.frozen 1
  clear h
  cases bad
  · go_enter Try.func26, Try.ntmps26
    go_wp2
    go_ret
    exact ⟨ret_b (by rw [← empty_size]; rfl), rfl⟩
  · go_enter Try.func26, Try.ntmps26
    go_wp2
    go_ret
    exact ⟨ret_b (by simp), rfl⟩
theorem rnum_empty (R : Nat) (s : ByteArray) (bad : Bool) (w : World) (h : RdR w R s bad) (hs : s = ⟨#[]⟩) : Calls Try.prog 18 #[.pointer (some ⟨R, 0, none⟩)] w fun e w' => e = .returned (.int .u64 0) ∧ RdR w' R ⟨#[]⟩ true ∧ Moved w w' (fun k => k = R) := by
  subst hs
  have c0 : w.cell? ⟨R, 0, none⟩ = some (.string ⟨#[]⟩) := h.cell 0
  have f0 := h.frozen 0
  have H := Lib.hid h
  clear h
  go_enter Try.func18, Try.ntmps18
  go_wp2_with (go_at_call 33; refine (rstop_any R _ bad _ H.out).mono ?_; rintro e w1 ⟨rfl, h1, m1⟩; have H1 := Lib.hid (And.intro h1 m1); clear h1 m1)
  go_ret
  exact ⟨rfl, H1.out.1, H1.out.2⟩
theorem lead_step (f j : Nat) (hf : f ≤ 255) (hj : j < 8) (hl : j ≤ lead f) : ((f - ones j) / 2 ^ (7 - j)) % 2 = (if j < lead f then 1 else 0) ∧ ones j ≤ f ∧ (j < lead f → f - ones (j + 1) = f - ones j - 128 / 2 ^ j ∧ 128 / 2 ^ j ≤ f - ones j) := by
  have hd : ∀ f : Fin 256, ∀ j : Fin 8, j.val ≤ lead f.val → ((f.val - ones j.val) / 2 ^ (7 - j.val)) % 2 = (if j.val < lead f.val then 1 else 0) ∧ ones j.val ≤ f.val ∧ (j.val < lead f.val → f.val - ones (j.val + 1) = f.val - ones j.val - 128 / 2 ^ j.val ∧ 128 / 2 ^ j.val ≤ f.val - ones j.val) := by decide +kernel
  exact hd ⟨f, by omega⟩ ⟨j, hj⟩ hl
/-- What the document's Num leaves, where a byte is there. -/
def RNumPost (R : Nat) (s : ByteArray) (k : Nat) (bad : Bool) (w : World) (N : Nat) (e : Ending) (w' : World) : Prop :=
  ((s.size < 1 + k ∨ (0 < k ∧ N < 2 ^ (7 * k))) ∧ e = .returned (.int .u64 0) ∧ RdR w' R ⟨#[]⟩ true ∧ Moved w w' (fun k => k = R)) ∨
    ((¬ s.size < 1 + k ∧ ¬ (0 < k ∧ N < 2 ^ (7 * k))) ∧ e = .returned (.int .u64 N) ∧ RdR w' R (s.extract (1 + k) s.size) bad ∧ Moved w w' (fun k => k = R))
set_option maxHeartbeats 1000000 in
theorem rnum_full (R : Nat) (s : ByteArray) (bad : Bool) (w : World) (h : RdR w R s bad) (hs : s.size ≤ 1000000) (h0 : 0 < s.size) (k : Nat) (hke : lead (s[0]).toNat = k) :
    Calls Try.prog 18 #[.pointer (some ⟨R, 0, none⟩)] w (RNumPost R s k bad w (num ((s[0]).toNat - ones k) ((s.data.toList.drop 1).take k))) := by
  have c0 : w.cell? ⟨R, 0, none⟩ = some (.string s) := h.cell 0
  have f0 := h.frozen 0
  have H := Lib.hid h
  clear h
  have hf := s[0].toNat_lt
  have hf5 : s[0].toNat ≤ 255 := Nat.le_of_lt_succ hf
  clear hf
  have hse : s.toList.isEmpty = false := by rw [empty_size, beq_eq_false_iff_ne]; omega
  have h8 : k ≤ 8 := hke ▸ lead_le _
  obtain ⟨f, hfe⟩ : ∃ f, s[0].toNat = f := ⟨_, rfl⟩
  rw [hfe] at hke hf5 ⊢
  have HK := Lib.hid hke
  clear hke
  obtain ⟨r, hr⟩ : ∃ r, s.data.toList.drop 1 = r := ⟨_, rfl⟩
  have hrl : r.length = s.size - 1 := by rw [← hr, List.length_drop, Array.length_toList]; rfl
  have hn0l : f - ones k < 2 ^ (lim k - 8 * k) := by
    have := (lead_bound f hf5).2
    rw [HK.out] at this
    exact this
  rw [hr]
  have HR := Lib.hid (And.intro hr (And.intro hrl hn0l))
  clear hr hrl hn0l
  go_enter Try.func18, Try.ntmps18
  go_wp2
  go_loop [4, 3] (fun v x => ∃ j : Nat, j ≤ k ∧ v = .int .i64 j ∧ x = .int .i64 ((f - ones j : Nat) : Int)) (fun v _ => 8 - (intOf v).toNat)
  case atStart => exact ⟨0, by omega, rfl, rfl⟩
  case round =>
    obtain ⟨j, hj, rfl, rfl⟩ := hrel
    by_cases hlt : j < k
    · obtain ⟨h1, h2, h3⟩ := lead_step f j hf5 (by omega) (by rw [HK.out]; exact hj)
      rw [HK.out] at h1 h3
      rw [if_pos hlt] at h1
      obtain ⟨h4, h5⟩ := h3 hlt
      obtain ⟨m, hm⟩ : ∃ m, f - ones j = m := ⟨_, rfl⟩
      obtain ⟨d, hd⟩ : ∃ d, 128 / 2 ^ j = d := ⟨_, rfl⟩
      have hd' : (128 : Int) / 2 ^ j = (d : Int) := by rw [← hd]; simp
      have e : ((m : Int) / 2 ^ (7 - j)) = ((m / 2 ^ (7 - j) : Nat) : Int) := by simp
      rw [hm] at h1 h4 h5 ⊢
      rw [hd] at h4 h5
      have ht : (((m : Int) / 2 ^ (7 - j)).tmod 2 == 1) = true := by rw [e]; generalize m / 2 ^ (7 - j) = q at h1; rw [Int.tmod_eq_emod_of_nonneg (by omega), beq_iff_eq]; omega
      have hm5 : m ≤ 255 := by omega
      have HM := Lib.hid (And.intro h4 h5)
      clear e h1 h2 h3 h4 h5 hm hd
      have h5 := HM.out.2
      have hj8 : j < 8 := by omega
      go_wp2
      go_round
      case rel => exact ⟨j + 1, by omega, by go_num, by rw [HM.out.1, Int.ofNat_sub HM.out.2]⟩
      case measure => simp [intOf]; omega
    · obtain rfl : j = k := by omega
      have hst : ¬ ((j : Int) < 8) ∨ ((j : Int) < 8) ∧ ((((f - ones j : Nat) : Int) / 2 ^ (7 - j)).tmod 2 == 1) = false := by
        by_cases h9 : j < 8
        · refine .inr ?_
          obtain ⟨h1, h2, h3⟩ := lead_step f j hf5 h9 (by rw [HK.out]; exact Nat.le_refl _)
          rw [HK.out, if_neg (Nat.lt_irrefl _)] at h1
          have e : (((f - ones j : Nat) : Int) / 2 ^ (7 - j)) = (((f - ones j) / 2 ^ (7 - j) : Nat) : Int) := by simp
          rw [e]; generalize (f - ones j) / 2 ^ (7 - j) = q at h1; rw [Int.tmod_eq_emod_of_nonneg (by omega), beq_eq_false_iff_ne]; omega
        · exact .inl (by omega)
      obtain ⟨n0, hn0⟩ : ∃ n0, f - ones j = n0 := ⟨_, rfl⟩
      have hn5 : n0 ≤ 255 := by omega
      rw [hn0] at hst ⊢
      clear hlt hj
      by_cases hsh : s.size < 1 + j
      · have hsh' : (s.size : Int) < 1 + (j : Int) := by omega
        rcases hst with hst | ⟨hj8, hst⟩
        all_goals
          have HST := Lib.hid (And.intro hst hsh)
          go_wp2_with (go_at_call 33; refine (rstop_any R _ bad _ H.out).mono ?_; rintro e w1 ⟨rfl, h1, m1⟩; have H1 := Lib.hid (And.intro h1 m1); clear h1 m1)
          go_ret
          exact .inl ⟨.inl HST.out.2, rfl, H1.out.1, H1.out.2⟩
      · have hsh' : ¬ (s.size : Int) < 1 + (j : Int) := by omega
        have c1 := H.out.cell 1
        have f1 := H.out.frozen 1
        rcases hst with hst | ⟨hj8, hst⟩
        all_goals
          have HST := Lib.hid (And.intro hst hsh)
          go_wp2
          clear hst
          go_loop [6, 5] (fun v x => ∃ q : Nat, q ≤ j ∧ v = .int .i64 ((q + 1 : Nat) : Int) ∧ x = .int .u64 ((num n0 (r.take q) : Nat) : Int)) (fun v _ => 9 - (intOf v).toNat)
          case atStart => exact ⟨0, by omega, rfl, rfl⟩
          case round =>
            obtain ⟨q, hq, rfl, rfl⟩ := hrel
            have hml := num_lt _ n0 (r.take q) (by rw [← hn0]; exact HR.out.2.2)
            have hpw : 2 ^ (lim j - 8 * j) * 256 ^ (j - 1) * 256 ≤ 2 ^ 64 ∨ j = 0 := by
              rcases Nat.eq_zero_or_pos j with h0 | h0
              · exact .inr h0
              · refine .inl ?_
                rw [Nat.mul_assoc, ← Nat.pow_succ, show (j - 1).succ = j by omega, show (256 : Nat) = 2 ^ 8 from rfl, ← Nat.pow_mul, ← Nat.pow_add]
                exact Nat.pow_le_pow_right (by omega) (by unfold lim; split <;> omega)
            by_cases hlt : q < j
            · have hjr : q < r.length := by rw [HR.out.2.1]; omega
              have hm64 : num n0 (r.take q) < 2 ^ 56 := by
                have h1 : (r.take q).length ≤ j - 1 := by rw [List.length_take]; omega
                have h2 := Nat.mul_le_mul_left (2 ^ (lim j - 8 * j)) (Nat.pow_le_pow_right (n := 256) (by omega) h1)
                omega
              have hnt := num_take n0 r q hjr
              have hrj : s[q + 1]'(by omega) = r[q] := by
                have := HR.out.1
                subst this
                simp
                rfl
              obtain ⟨m, hm⟩ : ∃ m, num n0 (r.take q) = m := ⟨_, rfl⟩
              rw [hm] at hm64 hnt ⊢
              have hb := (s[q + 1]'(by omega)).toNat_lt
              have hb5 : (s[q + 1]'(by omega)).toNat ≤ 255 := Nat.le_of_lt_succ hb
              have HN := Lib.hid (And.intro hnt hrj)
              clear hml hpw hm hnt hrj hb
              go_wp2
              go_round
              case rel => exact ⟨q + 1, by omega, by go_num, by rw [HN.out.1, ← HN.out.2]; simp⟩
              case measure => simp [intOf]; omega
            · obtain rfl : q = j := by omega
              obtain ⟨N, hN⟩ : ∃ N, num n0 (r.take q) = N := ⟨_, rfl⟩
              have hN64 : N < 2 ^ 64 := by
                rw [List.length_take, HR.out.2.1, Nat.min_eq_left (by omega), show (256 : Nat) = 2 ^ 8 from rfl, ← Nat.pow_mul, ← Nat.pow_add, Nat.sub_add_cancel (lim_ge q h8), hN] at hml
                exact Nat.lt_of_lt_of_le hml (Nat.pow_le_pow_right (by omega) (by unfold lim; split <;> omega))
              rw [hN]
              have HNN := Lib.hid hN
              have hq8 : q ≤ 8 := h8
              clear hlt hq hml hpw hN
              by_cases hz : 0 < q ∧ N < 2 ^ (7 * q)
              · have hfb : fitB N (q - 1) = true := by
                  unfold fitB
                  rw [Bool.or_eq_true, decide_eq_true_eq]
                  exact .inr (by rw [show 7 + 7 * (q - 1) = 7 * q by omega]; exact hz.2)
                have HZ := Lib.hid hz
                have hz1 := hz.1
                have hq1 : ((q : Int) - 1) = ((q - 1 : Nat) : Int) := by omega
                have HQ1 := Lib.hid hq1
                clear hz hq1
                go_wp2_with fail
                rw [HQ1.out]
                refine (fits_any N (q - 1) _ (by omega)).mono ?_
                rintro e w' ⟨rfl, rfl⟩
                rw [hfb]
                clear hfb
                go_wp2_with (go_at_call 33; refine (rstop_any R _ bad _ H.out).mono ?_; rintro e w1 ⟨rfl, h1, m1⟩; have H1 := Lib.hid (And.intro h1 m1); clear h1 m1)
                go_ret
                exact .inl ⟨.inr (by rw [hn0, HNN.out]; exact HZ.out), rfl, H1.out.1, H1.out.2⟩
              · have HZ := Lib.hid hz
                have hsq : (1 : Int) + (q : Int) ≤ s.size := by omega
                by_cases h0q : 0 < q
                · have hfb : fitB N (q - 1) = false := by
                    unfold fitB
                    rw [Bool.or_eq_false_iff]
                    exact ⟨by rw [beq_eq_false_iff_ne]; omega, by rw [decide_eq_false_iff_not, show 7 + 7 * (q - 1) = 7 * q by omega]; exact fun h => hz ⟨h0q, h⟩⟩
                  have hq1 : ((q : Int) - 1) = ((q - 1 : Nat) : Int) := by omega
                  have HQ1 := Lib.hid hq1
                  clear hz hq1
                  go_wp2_with fail
                  rw [HQ1.out]
                  refine (fits_any N (q - 1) _ (by omega)).mono ?_
                  rintro e w' ⟨rfl, rfl⟩
                  rw [hfb]
                  clear hfb
                  go_wp2
                  go_ret
                  exact .inr ⟨⟨HST.out.2, by first | (rw [hn0, HNN.out]; exact HZ.out) | (rw [HNN.out]; exact HZ.out)⟩, by first | (rw [hn0, HNN.out]; rfl) | (rw [HNN.out]; rfl), H.out.set 0 _, Moved.of_set _ _ _ (S := fun k => k = R) rfl⟩
                · clear hz
                  go_wp2
                  go_ret
                  exact .inr ⟨⟨HST.out.2, by first | (rw [hn0, HNN.out]; exact HZ.out) | (rw [HNN.out]; exact HZ.out)⟩, by first | (rw [hn0, HNN.out]; rfl) | (rw [HNN.out]; rfl), H.out.set 0 _, Moved.of_set _ _ _ (S := fun k => k = R) rfl⟩
end Go.Proofs.Ytjfdmbbhpabgnaa
