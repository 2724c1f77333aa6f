/- The walk of done, of layer 8. No condition. -/
import Derived.Test.YtfkkkndigkchcaaArenaDone
import Derived.Test.YtfkkkndigkchcaaTrailV
import Derived.Test.YtfkkkndigkchcaaTrailAllocW
namespace Go.Proofs.Ytfkkkndigkchcaa
open Go.RowKit
attribute [local irreducible] Calls
section
variable {w0 w wr w' : World} {col cr : Nat → Nat} {c A Bb Ba T base cap k n : Nat} {q : List Int × List (Int × Int)} {M M' : AM} {v : Value} {l : List Int}
theorem DoneSt.stepOf (h1 : ∀ j, j < w.heap.size → cr j = col j) (h2 : Moved w wr (fun j => col j = c)) (h4 : RowC wr cr (c + 1) w.heap.size 3 1 v l.length (l.map (Value.int .i64))) (hN : ASN w0 wr w' cr c A Bb Ba T base cap n q M') : DoneSt w0 w w' col c A Bb Ba T base cap n q M' v l := by
  refine ⟨_, fun j hj => ?_, ?_, hN.1, h4.step hN.2 (fun _ h _ => h) (by omega)⟩
  · exact (recol_lt (Nat.lt_of_lt_of_le hj h2.size)).trans (h1 j hj)
  · refine ⟨hN.2.os.trans h2.os, hN.2.tape.trans h2.tape, hN.2.output.trans h2.output, Nat.le_trans h2.size hN.2.size, fun j hj hne => ?_⟩
    exact (hN.2.block j (Nat.lt_of_lt_of_le hj h2.size) (by rw [h1 j hj]; exact hne)).trans (h2.block j hj hne)
theorem dn_at (h : DoneSt w0 w wr col c A Bb Ba T base cap k q M v l) (hk : k ≤ 1000000) (z : Int) : Calls Try.prog 55 #[.pointer (some ⟨A, 0, none⟩), .int .i64 z] wr fun e w' => e = .returned (.int .i64 (M.at z)) ∧ DoneSt w0 w w' col c A Bb Ba T base cap k q M v l := by
  have hS := h
  obtain ⟨cr, h1, h2, h3, h4⟩ := h
  exact (as_at h3 hk z).mono fun e w' ⟨he, hb⟩ => ⟨he, hS.below hb⟩
theorem dn_full (h : DoneSt w0 w wr col c A Bb Ba T base cap k q M v l) (hr : M.row = []) : Calls Try.prog 50 #[.pointer (some ⟨A, 0, none⟩)] wr fun e w' => e = .returned (.tuple #[.int .i64 0, .int .i64 6]) ∧ DoneSt w0 w w' col c A Bb Ba T base cap k q M v l := by
  have hS := h
  obtain ⟨cr, h1, h2, h3, h4⟩ := h
  exact (as_full h3 hr).mono fun e w' ⟨he, hb⟩ => ⟨he, hS.below hb⟩
theorem dn_make (h : DoneSt w0 w wr col c A Bb Ba T base cap k q M v l) (hk : k ≤ 1000000) (s : Nat) (r : List Nat) (hr : M.row = s :: r) : Calls Try.prog 50 #[.pointer (some ⟨A, 0, none⟩)] wr fun e w' => e = .returned (.tuple #[.int .i64 (256 * ((M.g.getD s 0 + 1 : Nat) : Int) + s), .int .i64 0]) ∧ DoneSt w0 w w' col c A Bb Ba T base cap (k + 1) q (M.make s r) v l := by
  obtain ⟨cr, h1, h2, h3, h4⟩ := h
  exact (as_make h3 hk s r hr).mono fun e w' ⟨he, hN⟩ => ⟨he, DoneSt.stepOf h1 h2 h4 hN⟩
theorem dn_free_no (h : DoneSt w0 w wr col c A Bb Ba T base cap k q M v l) (hk : k ≤ 1000000) (z : Int) (hz : M.slot z < 0) : Calls Try.prog 47 #[.pointer (some ⟨A, 0, none⟩), .int .i64 z] wr fun e w' => e = .returned (.int .i64 5) ∧ DoneSt w0 w w' col c A Bb Ba T base cap k q M v l := by
  have hS := h
  obtain ⟨cr, h1, h2, h3, h4⟩ := h
  exact (as_free_no h3 hk z hz).mono fun e w' ⟨he, hb⟩ => ⟨he, hS.below hb⟩
theorem dn_free (h : DoneSt w0 w wr col c A Bb Ba T base cap k q M v l) (hk : k ≤ 1000000) (z : Int) (s : Nat) (hz : M.slot z = s) : Calls Try.prog 47 #[.pointer (some ⟨A, 0, none⟩), .int .i64 z] wr fun e w' => e = .returned (.int .i64 0) ∧ DoneSt w0 w w' col c A Bb Ba T base cap (k + 1) q (M.free s) v l := by
  obtain ⟨cr, h1, h2, h3, h4⟩ := h
  exact (as_free h3 hk z s hz).mono fun e w' ⟨he, hN⟩ => ⟨he, DoneSt.stepOf h1 h2 h4 hN⟩
theorem DoneSt.mono (h : DoneSt w0 w wr col c A Bb Ba T base cap k q M v l) (hn : k ≤ n) : DoneSt w0 w wr col c A Bb Ba T base cap n q M v l := by
  obtain ⟨cr, h1, h2, h3, h4⟩ := h
  exact ⟨cr, h1, h2, h3.mono hn, h4⟩
end
section
variable {w0 w : World} {col : Nat → Nat} {c A Bb Ba T base cap k : Nat} {q : List Int × List (Int × Int)} {M : AM}
set_option maxRecDepth 100000 in
set_option maxHeartbeats 4000000 in
theorem done_any (a : Option Addr) (len lc : Nat) (F : Nat → Int) (h : AS w0 w col c A Bb Ba T base cap k q M) (hk : k ≤ 1000) (hR : Nums w0 w0.heap.size .u8 (.slice a len lc) len F) (hl : (len : Int) ≤ 9223372036854775807) :
    Calls Try.prog 59 #[.pointer (some ⟨A, 0, none⟩), .slice a len lc] w fun e w' => ∃ v, e = .returned v ∧ DoneSt w0 w w' col c A Bb Ba T base cap (k + 60) q (runD F (min len 60) (M, [])).1 v (runD F (min len 60) (M, [])).2 := by
  obtain ⟨i0, hi, hz0, hz1, hz2⟩ := info_parts infoI
  have HR := Lib.hid hR
  have h0 := h.bel.size
  have HD := Lib.hid (DoneSt.first h)
  clear hR h
  go_enter Try.func59, Try.ntmps59
  go_wp2
  go_loopw [5, 6] (fun lv x wr => ∃ (i : Nat), i ≤ len ∧ i ≤ 60 ∧ x = .int .i64 i ∧ Hid (DoneSt w0 w wr col c A Bb Ba T base cap (k + i) q (runD F i (M, [])).1 lv (runD F i (M, [])).2)) (fun _ x _ => len - (intOf x).toNat)
  case atStart => exact ⟨0, Nat.zero_le _, by omega, rfl, HD⟩
  case round =>
    obtain ⟨i, hil, hi60, rfl, hst⟩ := hrel
    by_cases hlt : i < len
    · by_cases h60 : i < 60
      · obtain ⟨a', c', e, _, _, hcells⟩ := HR.out
        injection e with e1 e2 e3
        subst e1 e3
        obtain ⟨b, o, rfl, hb, hcells⟩ := hcells.resolve_left (by omega)
        have hx := hcells i hlt
        obtain ⟨x, hxx⟩ : ∃ x, F i = x := ⟨_, rfl⟩
        rw [hxx] at hx
        have bx := u8_bd hx.2
        have hbw : Below w0.heap.size w0 wr := by obtain ⟨_, _, _, hAS, _⟩ := hst.out; exact hAS.bel
        have cx : wr.cell? ⟨b, o + i, none⟩ = some (.int .u8 x) := (hbw.cell (p := ⟨b, o + i, none⟩) hb).trans hx.1
        clear hbw
        have hrun : runD F (i + 1) (M, []) = stepD (runD F i (M, [])) x := by show stepD _ (F i) = _; rw [hxx]
        have hlen := runD_len F i (M, [])
        obtain ⟨S, hS⟩ : ∃ S, runD F i (M, []) = S := ⟨_, rfl⟩
        rw [hS] at hst hrun hlen
        obtain ⟨M1, l1⟩ := S
        have HQ := Lib.hid hrun
        clear hS hrun hxx hcells
        have x0 := bx.1
        have x1 := bx.2
        have hi0 : (0 : Int) ≤ i := by omega
        have hi1 : (i : Int) < len := by omega
        have hi2 : (i : Int) < 60 := by omega
        have hl1 : l1.length ≤ 60 := by simpa using Nat.le_trans hlen (by simp; omega)
        clear hlen hx bx
        by_cases h3 : x % 3 = 1
        · have hs3 : stepD (M1, l1) x = if 0 ≤ M1.slot (M1.at (x / 3 % 20)) then (M1.free (M1.slot (M1.at (x / 3 % 20))).toNat, l1) else (M1, l1) := by unfold stepD; rw [if_pos h3]
          obtain ⟨z, hz⟩ : ∃ z, M1.at (x / 3 % 20) = z := ⟨_, rfl⟩
          rw [hz] at hs3
          by_cases hsl : 0 ≤ M1.slot z
          · rw [if_pos hsl] at hs3
            obtain ⟨t, ht⟩ : ∃ t : Nat, M1.slot z = t := ⟨(M1.slot z).toNat, by omega⟩
            rw [ht, Int.toNat_natCast] at hs3
            have hc := Lib.hid (dn_at hst.out (by omega) (x / 3 % 20))
            rw [hz] at hc
            have HT := Lib.hid ht
            have HQ3 := Lib.hid (HQ.out.trans hs3)
            clear hst hz hs3 ht HQ hsl
            go_wp2_with (first | (go_at_call 55; refine hc.out.mono ?_; rintro e w5 ⟨rfl, hN⟩; have hc2 := Lib.hid (dn_free hN (by omega) z t HT.out); clear hN) | (go_at_call 47; refine hc2.out.mono ?_; rintro e w6 ⟨rfl, hN⟩))
            go_roundw
            case rel => exact ⟨i + 1, by omega, by omega, by go_num, Lib.hid (by rw [HQ3.out]; exact hN)⟩
            case measure => simp [intOf]; omega
          · rw [if_neg hsl] at hs3
            have ht : M1.slot z < 0 := by omega
            have hc := Lib.hid (dn_at hst.out (by omega) (x / 3 % 20))
            rw [hz] at hc
            have HT := Lib.hid ht
            have HQ3 := Lib.hid (HQ.out.trans hs3)
            clear hst hz hs3 ht HQ hsl
            go_wp2_with (first | (go_at_call 55; refine hc.out.mono ?_; rintro e w5 ⟨rfl, hN⟩; have hc2 := Lib.hid (dn_free_no hN (by omega) z HT.out); clear hN) | (go_at_call 47; refine hc2.out.mono ?_; rintro e w6 ⟨rfl, hN⟩))
            go_roundw
            case rel => exact ⟨i + 1, by omega, by omega, by go_num, Lib.hid (by rw [HQ3.out]; exact hN.mono (by omega))⟩
            case measure => simp [intOf]; omega
        · obtain ⟨R, hR⟩ : ∃ R, M1.row = R := ⟨_, rfl⟩
          cases R with
          | nil =>
            have HQ3 := Lib.hid (HQ.out.trans (show stepD (M1, l1) x = (M1, l1) by unfold stepD; rw [if_neg h3]; simp only [hR]))
            have hc := Lib.hid (dn_full hst.out hR)
            clear hst HQ hR
            go_wp2_with (go_at_call 50; refine hc.out.mono ?_; rintro e w5 ⟨rfl, hN⟩)
            go_roundw
            case rel => first | exact ⟨i + 1, by omega, by omega, by go_num, Lib.hid (by rw [HQ3.out]; exact hN.mono (by omega))⟩ | ((repeat apply Exists.intro); exact ⟨⟨i + 1, by omega, by omega, by go_num, Lib.hid (by rw [HQ3.out]; exact hN.mono (by omega))⟩, rfl⟩)
            case measure => simp [intOf]; omega
          | cons t r =>
            obtain ⟨z, hz⟩ : ∃ z : Int, 256 * ((M1.g.getD t 0 + 1 : Nat) : Int) + t = z := ⟨_, rfl⟩
            have HQ3 := Lib.hid (HQ.out.trans (show stepD (M1, l1) x = (M1.make t r, l1 ++ [z]) by unfold stepD; rw [if_neg h3]; simp only [hR, hz]))
            have hc := Lib.hid (dn_make hst.out (by omega) t r hR)
            rw [hz] at hc
            clear hst HQ hR hz
            go_wp2_with (first | (go_at_call 50; refine hc.out.mono ?_; rintro e w5 ⟨rfl, hN⟩; have hown := hN.last.2; have hsz := hN.last.1.2.size) | (at_builtin; refine wpList_append_fresh _ rfl _ _ 34 rfl w.heap.size 3 i0 (.int .i64 0) 1 8 Try.underlying34 hi hz0 hz1 hz2 rfl (by decide) _ _ _ rfl (World.ownsRow.alloc hown _) ⟨w5.heap.size, 0, none⟩ 1 1 [.int .i64 z] rfl rfl (cell_one_new _ _ _) (by simp [Value.oneCell']) (by unfold maxLen; omega) (by omega) (by simp; omega) ?_; intro v' w6 hown' hgrow hfr'))
            go_roundw
            case rel =>
              have hA := hN.app h0 _ hown' hgrow hfr'
              first | exact ⟨i + 1, by omega, by omega, by go_num, Lib.hid (by rw [HQ3.out]; exact hA)⟩ | ((repeat apply Exists.intro); exact ⟨⟨i + 1, by omega, by omega, by go_num, Lib.hid (by rw [HQ3.out]; exact hA)⟩, rfl⟩)
            case measure => simp [intOf]; omega
      · obtain rfl : i = 60 := by omega
        have HE := Lib.hid (show min len 60 = 60 by omega)
        go_wp2
        go_ret
        exact ⟨_, rfl, by rw [HE.out]; exact hst.out⟩
    · obtain rfl : i = len := by omega
      have HE := Lib.hid (show min i 60 = i by omega)
      go_wp2
      go_ret
      exact ⟨_, rfl, by rw [HE.out]; exact hst.out.mono (by omega)⟩
end
end Go.Proofs.Ytfkkkndigkchcaa
