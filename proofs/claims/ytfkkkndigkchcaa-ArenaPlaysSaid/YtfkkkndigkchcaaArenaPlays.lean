/- The walk of ArenaPlays. No condition. -/
import Derived.Test.YtfkkkndigkchcaaArenaP
import Derived.Test.YtfkkkndigkchcaaArenaW
import Derived.Test.YtfkkkndigkchcaaQTail
import Derived.Test.YtfkkkndigkchcaaOpenA
import Derived.Deep.CutBlock
namespace Go.Proofs.Ytfkkkndigkchcaa
open Go.ChangeShapes Go.WideShapes Go.ChangeAt Go.RowKit
attribute [local irreducible] Calls

/-- The marks and the copies, in the order they were laid. -/
def ksOf (S : List AE) : List Int := (S.map (·.x)).reverse
def psOf (S : List AE) : List (Nat × AM) := (S.map fun e => (e.p, e.M)).reverse
theorem i64_bd {x : Int} (h : (Lit.int .i64 x).wf = true) : -9223372036854775808 ≤ x ∧ x ≤ 9223372036854775807 := by simpa [Lit.wf, IntKind.min, IntKind.max, IntKind.signed, IntKind.bits] using h
theorem ks_push (S : List AE) (e : AE) : ksOf (e :: S) = ksOf S ++ [e.x] := by simp [ksOf]
theorem ps_push (S : List AE) (e : AE) : psOf (e :: S) = psOf S ++ [(e.p, e.M)] := by simp [psOf]
theorem ks_len (S : List AE) : (ksOf S).length = S.length := by simp [ksOf]
theorem ps_len (S : List AE) : (psOf S).length = S.length := by simp [psOf]
set_option maxRecDepth 100000 in
set_option maxHeartbeats 8000000 in
theorem arenaPlays_walk (a : Option Addr) (len cap : Nat) (F : Nat → Nat → Int) (sz : Int) (w : World) (hR : Rws w w.heap.size .i64 2 (.slice a len cap) len F) (hl : (len : Int) ≤ 9223372036854775807) :
    Calls Try.prog 9 #[.slice a len cap, .int .i64 sz] w fun e w' => e = .returned (.bool true) ∧ Below w.heap.size w w' := by
  obtain ⟨ip, hpi, hp0, hp1, hp2⟩ := info_parts infoPA
  have HR := Lib.hid hR
  clear hR
  by_cases hsz : sz < 1 ∨ 256 < sz
  · have HSZ := Lib.hid hsz
    clear hsz
    go_enter Try.func9, Try.ntmps9
    go_wp2_with fail
    refine (tr_new w).mono ?_
    rintro e w1 ⟨rfl, hT0⟩
    obtain ⟨T, hT⟩ : ∃ T, w.heap.size = T := ⟨_, rfl⟩
    have HB := Lib.hid (hT0 w (Below.refl _ _)).2
    clear hT0
    go_wp2_with fail
    refine (new_no w1 _ sz HSZ.out).mono ?_
    rintro e w' ⟨rfl, rfl⟩
    go_wp2_with fail
    refine (dnew_no w1 sz HSZ.out).mono ?_
    rintro e w' ⟨rfl, rfl⟩
    go_wp2_with fail
    refine (aworks_any w1).mono ?_
    rintro e w2 ⟨rfl, hc⟩
    have HC := Lib.hid (fb_call HB.out hc)
    clear hc hT
    go_wp2
    go_ret
    exact ⟨rfl, HC.out⟩
  · obtain ⟨n, rfl⟩ := Int.eq_ofNat_of_zero_le (show 0 ≤ sz by omega)
    have hn1 : 1 ≤ n := by omega
    have hn2 : n ≤ 256 := by omega
    clear hsz
    go_enter Try.func9, Try.ntmps9
    go_wp2_with fail
    refine (tr_new w).mono ?_
    rintro e w1 ⟨rfl, hT0⟩
    obtain ⟨T, hT⟩ : ∃ T, w.heap.size = T := ⟨_, rfl⟩
    have HT := Lib.hid (hT0 w (Below.refl _ _)).1
    rw [hT] at HT ⊢
    clear hT0 hT
    go_wp2_with fail
    refine (as_start (col := fun _ => 1) (c := 1) w n hn1 hn2 w1 HT.out (fun _ _ => rfl)).mono ?_
    rintro e w2 ⟨A, Bb, Ba, q, rfl, hN, _⟩
    have HN := Lib.hid hN
    clear hN HT
    go_wp2_with fail
    refine (dnew_any w2 n hn1 hn2).mono ?_
    rintro e w3 ⟨A', rv, gv, uv, rfl, hD, hb⟩
    have HS := Lib.hid (p_start w n HN.out hD hb)
    clear hD hb HN
    go_wp2
    go_loopw [7, 8, 9, 10, 11] (fun x7 x8 x9 x10 x11 wr => ∃ (i k : Nat) (q : List Int × List (Int × Int)) (M : AM) (Rp : Nat) (mv : Value) (made : List Int) (kv sv : Value) (S : List AE) (X0 : Nat) (xs0 : List Value), i ≤ len ∧ i ≤ 120 ∧ x11 = .int .i64 i ∧ x7 = .pointer (some ⟨Rp, 0, none⟩) ∧ mv = x8 ∧ kv = x9 ∧ sv = x10 ∧
      Hid (QR w wr ⟨A, T, n⟩ ⟨k, q, M, Rp, M, mv, made, kv, ksOf S, sv, psOf S, X0, xs0⟩ ∧ k ≤ i ∧ Chn n k q S ∧ (∀ e ∈ S, AOk e.M n) ∧ made.length ≤ i ∧ S.length ≤ i ∧ ∀ j, made.getD j 0 ≤ 9223372036854775807)) (fun _ _ _ _ x _ => len - (intOf x).toNat)
    case atStart => exact ⟨0, 0, _, _, _, _, [], _, _, [], _, _, Nat.zero_le _, by omega, rfl, rfl, rfl, rfl, rfl, Lib.hid ⟨HS.out, Nat.le_refl _, trivial, fun e he => (by cases he), by simp, by simp, fun j => by simp⟩⟩
    case round =>
      obtain ⟨i, k, q, M, Rp, mv, made, kv, sv, S, X0, xs0, hil, hi120, rfl, rfl, rfl, rfl, rfl, hst⟩ := hrel
      by_cases hlt : i < len
      · by_cases h120 : i < 120
        · obtain ⟨a', c', e, _, _, hcells⟩ := HR.out
          injection e with e1 e2 e3
          subst e1 e3
          obtain ⟨B, o, rfl, hb, hcells⟩ := hcells.resolve_left (by omega)
          have hQ := hst.out.1
          have hbw := hQ.bel
          obtain ⟨x0, hx0⟩ : ∃ x, F i 0 = x := ⟨_, rfl⟩
          obtain ⟨x1, hx1⟩ : ∃ x, F i 1 = x := ⟨_, rfl⟩
          have hx := hcells i hlt 0 (by omega)
          have hy := hcells i hlt 1 (by omega)
          rw [hx0] at hx
          rw [hx1] at hy
          have cx : wr.cell? ⟨B, o + i * 2, none⟩ = some (.int .i64 x0) := (hbw.cell (p := ⟨B, o + i * 2, none⟩) hb).trans hx.1
          have cy : wr.cell? ⟨B, o + i * 2 + 1, none⟩ = some (.int .i64 x1) := (hbw.cell (p := ⟨B, o + i * 2 + 1, none⟩) hb).trans hy.1
          have hwf := hy.2
          have hx1b : x1 ≤ 9223372036854775807 := (i64_bd hwf).2
          have HST := hst
          have i0 : (0 : Int) ≤ i := by omega
          have i1 : (i : Int) < len := by omega
          have i2 : (i : Int) < 120 := by omega
          clear hst hQ hbw hx hy hx0 hx1 hcells hb hwf HS
          go_upto_region 11 with fail
          obtain ⟨X, hX⟩ : ∃ X, wr.heap.size = X := ⟨_, rfl⟩
          obtain ⟨wa, hwa⟩ : ∃ wa, wr.alloc (.cells #[.int .i64 x0, .int .i64 x1] 62) = wa := ⟨_, rfl⟩
          have HQ := Lib.hid (show QP w wa ⟨A, T, n⟩ ⟨k, q, M, Rp, M, mv, made, kv, ksOf S, sv, psOf S, X, [.int .i64 x0, .int .i64 x1]⟩ from by
            rw [← hwa, ← hX]
            exact HST.out.1.act (fb_alloc (Below.refl _ _) _) (Arr.new wr _ [.int .i64 x0, .int .i64 x1]) (Nat.le_refl _))
          have HK := Lib.hid HST.out.2
          obtain ⟨mx, mc, hmv⟩ := HQ.out.made.any
          have hmv' : mv = .slice mx made.length mc := hmv
          subst hmv'
          obtain ⟨kx, kc, hkv⟩ := HQ.out.marks.any
          have hkv' : kv = .slice kx S.length kc := by rw [← ks_len]; exact hkv
          subst hkv'
          obtain ⟨sx, sc, hsv⟩ := own_any HQ.out.saved
          have hsv' : sv = .slice sx S.length sc := by rw [← ps_len]; exact hsv
          subst hsv'
          rw [hwa, hX]
          have c0 : wa.cell? ⟨X, 0, none⟩ = some (.int .i64 x0) := HQ.out.box.cell 0
          have c1 : wa.cell? ⟨X, 1, none⟩ = some (.int .i64 x1) := HQ.out.box.cell 1
          have hml : made.length ≤ 120 := by have := HK.out.2.2.2.1; omega
          have hsl : S.length ≤ 120 := by have := HK.out.2.2.2.2.1; omega
          have hk120 : k ≤ 120 := by have := HK.out.1; omega
          clear hwa hX cx cy HST hmv hkv hsv
          go_upto_block 2 with fail
          go_cut [7, 8, 9, 10, 13] from 41 to 188 (fun s7 s8 s9 s10 s13 wx => ∃ (z : Int) (k' : Nat) (q' : List Int × List (Int × Int)) (M' : AM) (Rp' : Nat) (mv' : Value) (made' : List Int) (kv' sv' : Value) (S' : List AE), s7 = .pointer (some ⟨Rp', 0, none⟩) ∧ mv' = s8 ∧ kv' = s9 ∧ sv' = s10 ∧ s13 = .int .i64 z ∧ z ≤ 9223372036854775807 ∧
            Hid (QP w wx ⟨A, T, n⟩ ⟨k', q', M', Rp', M', mv', made', kv', ksOf S', sv', psOf S', X, [.int .i64 x0, .int .i64 x1]⟩ ∧ k' ≤ i + 1 ∧ Chn n k' q' S' ∧ (∀ e ∈ S', AOk e.M n) ∧ made'.length ≤ i + 1 ∧ S'.length ≤ i + 1 ∧ ∀ j, made'.getD j 0 ≤ 9223372036854775807))
          case first =>
            by_cases h34 : x0 = 3 ∨ x0 = 4
            · skip
              as_aux_lemma =>
                by_cases hin : x0 = 3 ∧ 0 ≤ x1 ∧ x1 < made.length
                · obtain ⟨h3, hx10, hx11⟩ := hin
                  subst h3
                  obtain ⟨m, rfl⟩ := Int.eq_ofNat_of_zero_le hx10
                  have hmm : m < made.length := by omega
                  obtain ⟨G, cG, hG⟩ := HQ.out.made.form (by show 0 < made.length; omega)
                  injection hG with hG1 hG2 hG3
                  subst hG1 hG3
                  obtain ⟨z, hz⟩ : ∃ z, made.getD m 0 = z := ⟨_, rfl⟩
                  have cm : wa.cell? ⟨G, m, none⟩ = some (.int .i64 z) := by rw [← hz]; exact HQ.out.made.cell hmm
                  have hzb : z ≤ 9223372036854775807 := by rw [← hz]; exact HK.out.2.2.2.2.2 m
                  clear h34 hG2 hz hmm
                  go_upto_region 24 with fail
                  clear cm
                  by_cases hs : M.slot z < 0
                  · have HSL := Lib.hid hs
                    have HOK := Lib.hid (HQ.out.ok (show k ≤ 1000000 by omega) hn1)
                    clear hs
                    go_wp2_with fail
                    refine (p_free_no HQ.out (show k ≤ 1000000 by omega) z HSL.out).mono ?_
                    rintro e w4 ⟨rfl, hb⟩
                    have HQ4 := Lib.hid (HQ.out.below hb)
                    clear hb HQ
                    go_wp2_with fail
                    refine (d_free_no HQ4.out HOK.out z hzb HSL.out).mono ?_
                    rintro e wn ⟨rfl, rfl⟩
                    have HQ := HQ4
                    clear HQ4
                    clear c0 c1
                    go_wp2
                    go_meet
                    exact ⟨z, k, q, M, Rp, _, made, _, _, S, rfl, rfl, rfl, rfl, rfl, hzb, Lib.hid ⟨HQ.out, by have := HK.out.1; omega, HK.out.2.1, HK.out.2.2.1, by have := HK.out.2.2.2.1; simp <;> omega, by have := HK.out.2.2.2.2.1; simp <;> omega, HK.out.2.2.2.2.2⟩⟩
                  · obtain ⟨t, ht⟩ := Int.eq_ofNat_of_zero_le (show 0 ≤ M.slot z by omega)
                    have htn : t < n := by
                      have h1 := (slot_lt (show 0 ≤ M.slot z by omega)).1
                      have h2 : M.g.length = n := (HQ.out.rep).1
                      omega
                    have HTT := Lib.hid ht
                    have HOK0 := Lib.hid (HQ.out.ok (show k ≤ 1000000 by omega) hn1)
                    clear hs ht
                    go_wp2_with fail
                    refine (p_free HQ.out (show k ≤ 1000000 by omega) z t HTT.out).mono ?_
                    rintro e w4 ⟨rfl, hN⟩
                    have HQ4 := Lib.hid hN
                    clear hN HQ
                    go_wp2_with fail
                    refine (d_free HQ4.out HOK0.out z hzb t HTT.out htn).mono ?_
                    rintro e wn ⟨rfl, hN⟩
                    have HQ := Lib.hid hN
                    have HOK := Lib.hid (HQ.out.ok (show k + 1 ≤ 1000000 by omega) hn1)
                    clear hN HQ4
                    clear c0 c1
                    go_wp2
                    go_meet
                    exact ⟨z, k + 1, q, M.free t, Rp, _, made, _, _, S, rfl, rfl, rfl, rfl, rfl, hzb, Lib.hid ⟨HQ.out, by have := HK.out.1; omega, HK.out.2.1.mono (by omega), HK.out.2.2.1, by have := HK.out.2.2.2.1; simp <;> omega, by have := HK.out.2.2.2.2.1; simp <;> omega, HK.out.2.2.2.2.2⟩⟩
                · by_cases h4 : x0 = 4
                  · subst h4
                    clear h34 hin
                    go_upto_region 24 with fail
                    by_cases hs : M.slot x1 < 0
                    · have HSL := Lib.hid hs
                      have HOK := Lib.hid (HQ.out.ok (show k ≤ 1000000 by omega) hn1)
                      clear hs
                      go_wp2_with fail
                      refine (p_free_no HQ.out (show k ≤ 1000000 by omega) x1 HSL.out).mono ?_
                      rintro e w4 ⟨rfl, hb⟩
                      have HQ4 := Lib.hid (HQ.out.below hb)
                      clear hb HQ
                      go_wp2_with fail
                      refine (d_free_no HQ4.out HOK.out x1 hx1b HSL.out).mono ?_
                      rintro e wn ⟨rfl, rfl⟩
                      have HQ := HQ4
                      clear HQ4
                      clear c0 c1
                      go_wp2
                      go_meet
                      exact ⟨x1, k, q, M, Rp, _, made, _, _, S, rfl, rfl, rfl, rfl, rfl, hx1b, Lib.hid ⟨HQ.out, by have := HK.out.1; omega, HK.out.2.1, HK.out.2.2.1, by have := HK.out.2.2.2.1; simp <;> omega, by have := HK.out.2.2.2.2.1; simp <;> omega, HK.out.2.2.2.2.2⟩⟩
                    · obtain ⟨t, ht⟩ := Int.eq_ofNat_of_zero_le (show 0 ≤ M.slot x1 by omega)
                      have htn : t < n := by
                        have h1 := (slot_lt (show 0 ≤ M.slot x1 by omega)).1
                        have h2 : M.g.length = n := (HQ.out.rep).1
                        omega
                      have HTT := Lib.hid ht
                      have HOK0 := Lib.hid (HQ.out.ok (show k ≤ 1000000 by omega) hn1)
                      clear hs ht
                      go_wp2_with fail
                      refine (p_free HQ.out (show k ≤ 1000000 by omega) x1 t HTT.out).mono ?_
                      rintro e w4 ⟨rfl, hN⟩
                      have HQ4 := Lib.hid hN
                      clear hN HQ
                      go_wp2_with fail
                      refine (d_free HQ4.out HOK0.out x1 hx1b t HTT.out htn).mono ?_
                      rintro e wn ⟨rfl, hN⟩
                      have HQ := Lib.hid hN
                      have HOK := Lib.hid (HQ.out.ok (show k + 1 ≤ 1000000 by omega) hn1)
                      clear hN HQ4
                      clear c0 c1
                      go_wp2
                      go_meet
                      exact ⟨x1, k + 1, q, M.free t, Rp, _, made, _, _, S, rfl, rfl, rfl, rfl, rfl, hx1b, Lib.hid ⟨HQ.out, by have := HK.out.1; omega, HK.out.2.1.mono (by omega), HK.out.2.2.1, by have := HK.out.2.2.2.1; simp <;> omega, by have := HK.out.2.2.2.2.1; simp <;> omega, HK.out.2.2.2.2.2⟩⟩
                  · obtain rfl : x0 = 3 := h34.resolve_right h4
                    by_cases hx0 : x1 < 0
                    · clear h34 hin h4
                      go_upto_region 24 with fail
                      by_cases hs : M.slot x1 < 0
                      · have HSL := Lib.hid hs
                        have HOK := Lib.hid (HQ.out.ok (show k ≤ 1000000 by omega) hn1)
                        clear hs
                        go_wp2_with fail
                        refine (p_free_no HQ.out (show k ≤ 1000000 by omega) x1 HSL.out).mono ?_
                        rintro e w4 ⟨rfl, hb⟩
                        have HQ4 := Lib.hid (HQ.out.below hb)
                        clear hb HQ
                        go_wp2_with fail
                        refine (d_free_no HQ4.out HOK.out x1 hx1b HSL.out).mono ?_
                        rintro e wn ⟨rfl, rfl⟩
                        have HQ := HQ4
                        clear HQ4
                        clear c0 c1
                        go_wp2
                        go_meet
                        exact ⟨x1, k, q, M, Rp, _, made, _, _, S, rfl, rfl, rfl, rfl, rfl, hx1b, Lib.hid ⟨HQ.out, by have := HK.out.1; omega, HK.out.2.1, HK.out.2.2.1, by have := HK.out.2.2.2.1; simp <;> omega, by have := HK.out.2.2.2.2.1; simp <;> omega, HK.out.2.2.2.2.2⟩⟩
                      · obtain ⟨t, ht⟩ := Int.eq_ofNat_of_zero_le (show 0 ≤ M.slot x1 by omega)
                        have htn : t < n := by
                          have h1 := (slot_lt (show 0 ≤ M.slot x1 by omega)).1
                          have h2 : M.g.length = n := (HQ.out.rep).1
                          omega
                        have HTT := Lib.hid ht
                        have HOK0 := Lib.hid (HQ.out.ok (show k ≤ 1000000 by omega) hn1)
                        clear hs ht
                        go_wp2_with fail
                        refine (p_free HQ.out (show k ≤ 1000000 by omega) x1 t HTT.out).mono ?_
                        rintro e w4 ⟨rfl, hN⟩
                        have HQ4 := Lib.hid hN
                        clear hN HQ
                        go_wp2_with fail
                        refine (d_free HQ4.out HOK0.out x1 hx1b t HTT.out htn).mono ?_
                        rintro e wn ⟨rfl, hN⟩
                        have HQ := Lib.hid hN
                        have HOK := Lib.hid (HQ.out.ok (show k + 1 ≤ 1000000 by omega) hn1)
                        clear hN HQ4
                        clear c0 c1
                        go_wp2
                        go_meet
                        exact ⟨x1, k + 1, q, M.free t, Rp, _, made, _, _, S, rfl, rfl, rfl, rfl, rfl, hx1b, Lib.hid ⟨HQ.out, by have := HK.out.1; omega, HK.out.2.1.mono (by omega), HK.out.2.2.1, by have := HK.out.2.2.2.1; simp <;> omega, by have := HK.out.2.2.2.2.1; simp <;> omega, HK.out.2.2.2.2.2⟩⟩
                    · have hx2 : 0 ≤ x1 := by omega
                      have hx3 : (made.length : Int) ≤ x1 := by omega
                      clear h34 hin h4 hx0
                      go_upto_region 24 with fail
                      by_cases hs : M.slot x1 < 0
                      · have HSL := Lib.hid hs
                        have HOK := Lib.hid (HQ.out.ok (show k ≤ 1000000 by omega) hn1)
                        clear hs
                        go_wp2_with fail
                        refine (p_free_no HQ.out (show k ≤ 1000000 by omega) x1 HSL.out).mono ?_
                        rintro e w4 ⟨rfl, hb⟩
                        have HQ4 := Lib.hid (HQ.out.below hb)
                        clear hb HQ
                        go_wp2_with fail
                        refine (d_free_no HQ4.out HOK.out x1 hx1b HSL.out).mono ?_
                        rintro e wn ⟨rfl, rfl⟩
                        have HQ := HQ4
                        clear HQ4
                        clear c0 c1
                        go_wp2
                        go_meet
                        exact ⟨x1, k, q, M, Rp, _, made, _, _, S, rfl, rfl, rfl, rfl, rfl, hx1b, Lib.hid ⟨HQ.out, by have := HK.out.1; omega, HK.out.2.1, HK.out.2.2.1, by have := HK.out.2.2.2.1; simp <;> omega, by have := HK.out.2.2.2.2.1; simp <;> omega, HK.out.2.2.2.2.2⟩⟩
                      · obtain ⟨t, ht⟩ := Int.eq_ofNat_of_zero_le (show 0 ≤ M.slot x1 by omega)
                        have htn : t < n := by
                          have h1 := (slot_lt (show 0 ≤ M.slot x1 by omega)).1
                          have h2 : M.g.length = n := (HQ.out.rep).1
                          omega
                        have HTT := Lib.hid ht
                        have HOK0 := Lib.hid (HQ.out.ok (show k ≤ 1000000 by omega) hn1)
                        clear hs ht
                        go_wp2_with fail
                        refine (p_free HQ.out (show k ≤ 1000000 by omega) x1 t HTT.out).mono ?_
                        rintro e w4 ⟨rfl, hN⟩
                        have HQ4 := Lib.hid hN
                        clear hN HQ
                        go_wp2_with fail
                        refine (d_free HQ4.out HOK0.out x1 hx1b t HTT.out htn).mono ?_
                        rintro e wn ⟨rfl, hN⟩
                        have HQ := Lib.hid hN
                        have HOK := Lib.hid (HQ.out.ok (show k + 1 ≤ 1000000 by omega) hn1)
                        clear hN HQ4
                        clear c0 c1
                        go_wp2
                        go_meet
                        exact ⟨x1, k + 1, q, M.free t, Rp, _, made, _, _, S, rfl, rfl, rfl, rfl, rfl, hx1b, Lib.hid ⟨HQ.out, by have := HK.out.1; omega, HK.out.2.1.mono (by omega), HK.out.2.2.1, by have := HK.out.2.2.2.1; simp <;> omega, by have := HK.out.2.2.2.2.1; simp <;> omega, HK.out.2.2.2.2.2⟩⟩
            · have g3 : ¬ (x0 = 3) := fun e => h34 (.inl e)
              have g4 : ¬ (x0 = 4) := fun e => h34 (.inr e)
              clear h34
              by_cases h5 : x0 = 5
              · subst h5
                as_aux_lemma =>
                  have hk5 : (ksOf S).length ≤ 120 := by rw [ks_len]; exact hsl
                  have HOK0 := Lib.hid (HQ.out.ok (show k ≤ 1000000 by omega) hn1)
                  go_wp2_with fail
                  refine (p_mark HQ.out).mono ?_
                  rintro e w' ⟨q', mk, rfl, hM, hN, hh, rfl⟩
                  have HM := Lib.hid (And.intro hM hh)
                  have HQ2 := Lib.hid hN
                  clear hM hN hh HQ
                  go_upto_region 28 with (at_builtin; refine wpList_append_ints (base := w.heap.size) rfl (.tmp 116) (.tmp 119) rfl rfl (show IRow _ w.heap.size (.slice kx S.length kc) (ksOf S) from (HQ2.out.below (fb_alloc (Below.refl _ _) (.cells #[.int .i64 mk] 3))).marks) rfl (SInts.own (show IRow _ wa.heap.size _ [mk] from Arr.own (vs := [.int .i64 mk]) (Arr.new wa 3 [.int .i64 mk]) (Nat.le_refl _) (by simp [maxLen]))) (by simp; omega) (by have := HQ2.out.bel.size; simp; omega) ?_; intro v5 w5 hr5 hg5 hf5; have HQ5 := Lib.hid (QP.app5 (HQ2.out.below (fb_alloc (Below.refl _ _) (.cells #[.int .i64 mk] 3))) hr5 hg5 hf5); clear hr5 hg5 hf5)
                  clear HQ2
                  go_wp2_with fail
                  refine (d_copy HQ5.out HOK0.out).mono ?_
                  rintro e w6 ⟨A6, rfl, hb6, col6, Bb6, Ba6, hP6, hD6⟩
                  have H6 := Lib.hid (And.intro hP6 hD6)
                  have hsv6 : (w6.alloc (.cells #[.pointer (some ⟨A6, 0, none⟩)] 58)).ownsRow w.heap.size 58 1 (.slice sx S.length sc) S.length (ptrs (psOf S)) := by
                    have := (hP6.made 0 (fb_alloc (Below.refl _ _) (.cells #[.pointer (some ⟨A6, 0, none⟩)] 58))).sv (by decide)
                    rw [show (psOf S).length = S.length from ps_len S] at this
                    exact this.1
                  have hw6 : w.heap.size ≤ w6.heap.size := hP6.bel.size
                  clear hb6 hP6 hD6 HQ5
                  go_wp2_with (at_builtin; refine wpList_append_fresh _ rfl (.tmp 121) (.tmp 124) 60 rfl w.heap.size 58 ip (.pointer none) 1 8 Try.underlying60 hpi hp0 hp1 hp2 rfl (by decide) (.slice sx S.length sc) S.length (ptrs (psOf S)) rfl hsv6 ⟨w6.heap.size, 0, none⟩ 1 1 [.pointer (some ⟨A6, 0, none⟩)] rfl rfl (cell_one_new _ _ _) (by simp [Value.oneCell']) (by unfold maxLen; omega) (by omega) (by simp; omega) ?_; intro v7 wn hr7 hg7 hf7; have HQ7 := Lib.hid (AP.app6 (H6.out.1.made 0 (fb_alloc (Below.refl _ _) (.cells #[.pointer (some ⟨A6, 0, none⟩)] 58))) (H6.out.2.made 0 (fb_alloc (Below.refl _ _) _)) (by rw [show (psOf S).length = S.length from ps_len S]; exact hr7) hg7 hf7); clear hr7 hg7 hf7)
                  have HQ := Lib.hid (show QP w wn ⟨A, T, n⟩ ⟨k, q', M, Rp, M, _, made, v5, ksOf (⟨q', M, mk, A6⟩ :: S), v7, psOf (⟨q', M, mk, A6⟩ :: S), X, _⟩ from by rw [ks_push, ps_push]; exact HQ7.out)
                  have HOK := Lib.hid (HQ.out.ok (show k ≤ 1000000 by omega) hn1)
                  have HCH := Lib.hid (show Chn n k q' (⟨q', M, mk, A6⟩ :: S) from ⟨Hist.refl _, HM.out.1, HK.out.2.1.hist HM.out.2⟩)
                  have HSO := Lib.hid (show ∀ e ∈ (⟨q', M, mk, A6⟩ :: S : List AE), AOk e.M n from fun e he => by
                    rcases List.mem_cons.1 he with rfl | he
                    · exact HOK0.out
                    · exact HK.out.2.2.1 e he)
                  clear HQ7 H6 hsv6
                  clear c0 c1
                  go_wp2
                  go_meet
                  exact ⟨x1, k, q', M, Rp, _, made, _, _, ⟨q', M, mk, A6⟩ :: S, rfl, rfl, rfl, rfl, rfl, hx1b, Lib.hid ⟨HQ.out, by have := HK.out.1; omega, HCH.out, HSO.out, by have := HK.out.2.2.2.1; simp <;> omega, by have := HK.out.2.2.2.2.1; simp <;> omega, HK.out.2.2.2.2.2⟩⟩
              · by_cases h6 : x0 = 6
                · subst h6
                  as_aux_lemma =>
                    cases S with
                    | nil =>
                      have HQ6 := HQ
                      clear HQ
                      go_wp2
                      go_roundw
                      case rel => first | exact ⟨i + 1, k, q, M, Rp, _, made, _, _, [], _, _, by omega, by omega, by go_num, rfl, rfl, rfl, rfl, Lib.hid ⟨HQ6.out.rest, by have := HK.out.1; omega, HK.out.2.1, HK.out.2.2.1, by have := HK.out.2.2.2.1; omega, by simp, HK.out.2.2.2.2.2⟩⟩ | ((repeat apply Exists.intro); exact ⟨⟨i + 1, k, q, M, Rp, _, made, _, _, [], _, _, by omega, by omega, by go_num, rfl, rfl, rfl, rfl, Lib.hid ⟨HQ6.out.rest, by have := HK.out.1; omega, HK.out.2.1, HK.out.2.2.1, by have := HK.out.2.2.2.1; omega, by simp, HK.out.2.2.2.2.2⟩⟩, rfl⟩)
                      case measure => simp [intOf]; omega
                    | cons e r =>
                      obtain ⟨qe, Me, xe, pe⟩ := e
                      have hch := HK.out.2.1
                      have hSok := HK.out.2.2.1
                      have hMe : AOk Me n := hSok ⟨qe, Me, xe, pe⟩ (by simp)
                      have HMe := Lib.hid hMe
                      have HCH := Lib.hid (show MarkAt 0 n k qe Me xe ∧ Chn n k qe r from ⟨hch.2.1, hch.2.2⟩)
                      have HQ1 := Lib.hid (HQ.out.hist hch.1)
                      obtain ⟨m, hm⟩ : ∃ m, r.length = m := ⟨_, rfl⟩
                      have hlen : (⟨qe, Me, xe, pe⟩ :: r : List AE).length = m + 1 := by rw [List.length_cons, hm]
                      rw [hlen] at HQ1 hsl ⊢
                      have hks : ksOf (⟨qe, Me, xe, pe⟩ :: r) = ksOf r ++ [xe] := ks_push _ _
                      have hps : psOf (⟨qe, Me, xe, pe⟩ :: r) = psOf r ++ [(pe, Me)] := ps_push _ _
                      have hkl : (ksOf r).length = m := by rw [ks_len, hm]
                      have hpl : (psOf r).length = m := by rw [ps_len, hm]
                      have hmk := HQ1.out.marks
                      obtain ⟨Gk, ck, hGk⟩ := own_form (show World.ownsRow wa w.heap.size 3 1 (.slice kx (m + 1) kc) (m + 1) _ from by
                        have := hmk; unfold IRow at this; rw [show (ksOf (⟨qe, Me, xe, pe⟩ :: r)).length = m + 1 by rw [hks]; simp [hkl]] at this; exact this) (by omega)
                      injection hGk with hG1 _ hG3
                      subst hG1 hG3
                      obtain ⟨Gs, cs', hGs⟩ := own_form (show World.ownsRow wa w.heap.size 58 1 (.slice sx (m + 1) sc) (m + 1) _ from by
                        have := HQ1.out.saved; rw [show (psOf (⟨qe, Me, xe, pe⟩ :: r)).length = m + 1 by rw [hps]; simp [hpl]] at this; exact this) (by omega)
                      injection hGs with hG1 _ hG3
                      subst hG1 hG3
                      have cmk : wa.cell? ⟨Gk, m, none⟩ = some (.int .i64 xe) := by
                        have := IRow.cell hmk (j := m) (by rw [hks]; simp [hkl])
                        rw [hks, show (ksOf r ++ [xe]).getD m 0 = xe by simp [List.getD_eq_getElem?_getD, hkl]] at this
                        exact this
                      have hcap5 : m + 1 ≤ kc := by
                        obtain ⟨_, _, e1, e2⟩ := own_formc (show World.ownsRow wa w.heap.size 3 1 (.slice (some ⟨Gk, 0, none⟩) (m + 1) kc) (m + 1) _ from by
                          have := hmk; unfold IRow at this; rw [show (ksOf (⟨qe, Me, xe, pe⟩ :: r)).length = m + 1 by rw [hks]; simp [hkl]] at this; exact this) (by omega)
                        injection e1 with _ _ e3
                        omega
                      have hcap6 : m + 1 ≤ sc := by
                        obtain ⟨_, _, e1, e2⟩ := own_formc (show World.ownsRow wa w.heap.size 58 1 (.slice (some ⟨Gs, 0, none⟩) (m + 1) sc) (m + 1) _ from by
                          have := HQ1.out.saved; rw [show (psOf (⟨qe, Me, xe, pe⟩ :: r)).length = m + 1 by rw [hps]; simp [hpl]] at this; exact this) (by omega)
                        injection e1 with _ _ e3
                        omega
                      have hm0 : ((m + 1 : Nat) : Int) = (m : Int) + 1 := by omega
                      have hm1 : (m : Int) + 1 - 1 = m := by omega
                      have hm2 : ((m : Int) + 1 == 0) = false := by simp <;> omega
                      have hm3 : (0 : Int) ≤ m := by omega
                      have hm4 : (m : Int) < (m : Int) + 1 := by omega
                      have hm5 : (m : Int) ≤ kc := by omega
                      have hm6 : (m : Int) ≤ sc := by omega
                      have HKP := Lib.hid (And.intro hks (And.intro hps (And.intro hkl (And.intro hpl hm))))
                      clear hch hSok hMe hks hps hkl hpl hmk hm hlen HQ
                      go_wp2_with fail
                      refine (p_back HQ1.out (show k ≤ 1000000 by omega) HCH.out.1).mono ?_
                      rintro e w4 ⟨rfl, hN⟩
                      have HQ4 := Lib.hid hN
                      clear hN HQ1 cmk
                      have csv : w4.cell? ⟨Gs, m, none⟩ = some (.pointer (some ⟨pe, 0, none⟩)) := by
                        have h4 : w4.ownsRow w.heap.size 58 1 (.slice (some ⟨Gs, 0, none⟩) (m + 1) sc) (psOf (⟨qe, Me, xe, pe⟩ :: r)).length (ptrs (psOf (⟨qe, Me, xe, pe⟩ :: r))) := HQ4.out.saved
                        rw [show (psOf (⟨qe, Me, xe, pe⟩ :: r)).length = m + 1 by rw [HKP.out.2.1]; simp [HKP.out.2.2.2.1], HKP.out.2.1, show ptrs (psOf r ++ [(pe, Me)]) = ptrs (psOf r) ++ [.pointer (some ⟨pe, 0, none⟩)] from by unfold ptrs; rw [List.map_append]; rfl] at h4
                        have this := World.ownsRow.cellAt h4 m (by omega)
                        rw [this, List.getElem?_append_right (by simp [ptrs, HKP.out.2.2.2.1])]
                        simp [ptrs, HKP.out.2.2.2.1]
                      go_wp2_with fail
                      refine (d_again HQ4.out (p := (pe, Me)) (by rw [HKP.out.2.1]; simp) HMe.out).mono ?_
                      rintro e wn ⟨A6, rfl, hN⟩
                      have HQ := Lib.hid (show QP w wn ⟨A, T, n⟩ ⟨k, qe, Me, A6, Me, _, made, .slice (some ⟨Gk, 0, none⟩) m kc, ksOf r, .slice (some ⟨Gs, 0, none⟩) m sc, psOf r, X, _⟩ from by
                        have h5 := (hN.cut5 (m := m) (by show (ksOf _).length = _; rw [HKP.out.1]; simp [HKP.out.2.2.1]) rfl).cut6 (m := m) (by show (psOf _).length = _; rw [HKP.out.2.1]; simp [HKP.out.2.2.2.1]) rfl
                        have e5 : (ksOf (⟨qe, Me, xe, pe⟩ :: r)).take m = ksOf r := by rw [HKP.out.1, List.take_append_of_le_length (by rw [HKP.out.2.2.1]; exact Nat.le_refl _), List.take_of_length_le (by rw [HKP.out.2.2.1]; exact Nat.le_refl _)]
                        have e6 : (psOf (⟨qe, Me, xe, pe⟩ :: r)).take m = psOf r := by rw [HKP.out.2.1, List.take_append_of_le_length (by rw [HKP.out.2.2.2.1]; exact Nat.le_refl _), List.take_of_length_le (by rw [HKP.out.2.2.2.1]; exact Nat.le_refl _)]
                        rw [← e5, ← e6]; exact h5)
                      have HOK := HMe
                      have HRO := Lib.hid (show ∀ e ∈ r, AOk e.M n from fun e he => HK.out.2.2.1 e (List.mem_cons_of_mem _ he))
                      have HRL := Lib.hid (show r.length ≤ i by have := HK.out.2.2.2.2.1; simp at this; omega)
                      clear hN HQ4 csv
                      clear c0 c1
                      go_wp2
                      go_meet
                      exact ⟨x1, k, qe, Me, A6, _, made, _, _, r, rfl, rfl, rfl, rfl, rfl, hx1b, Lib.hid ⟨HQ.out, by have := HK.out.1; omega, HCH.out.2, HRO.out, by have := HK.out.2.2.2.1; simp <;> omega, by have := HRL.out; simp <;> omega, HK.out.2.2.2.2.2⟩⟩
                · skip
                  as_aux_lemma =>
                    have HOK0 := Lib.hid (HQ.out.ok (show k ≤ 1000000 by omega) hn1)
                    cases hrow : M.row with
                    | nil =>
                      have HRW := Lib.hid hrow
                      clear hrow
                      go_wp2_with fail
                      refine (p_full HQ.out HRW.out).mono ?_
                      rintro e w4 ⟨rfl, hb⟩
                      have HQ4 := Lib.hid (HQ.out.below hb)
                      clear hb HQ
                      go_wp2_with fail
                      refine (d_full HQ4.out HRW.out).mono ?_
                      rintro e wn ⟨rfl, rfl⟩
                      have HQ := HQ4
                      have HOK := HOK0
                      clear HQ4
                      clear c0 c1
                      go_wp2
                      go_meet
                      exact ⟨x1, k, q, M, Rp, _, made, _, _, S, rfl, rfl, rfl, rfl, rfl, hx1b, Lib.hid ⟨HQ.out, by have := HK.out.1; omega, HK.out.2.1, HK.out.2.2.1, by have := HK.out.2.2.2.1; simp <;> omega, by have := HK.out.2.2.2.2.1; simp <;> omega, HK.out.2.2.2.2.2⟩⟩
                    | cons t r =>
                      have HRW := Lib.hid hrow
                      clear hrow
                      have hgt : M.g.getD t 0 ≤ k := (HQ.out.rep).2.2.2.2.2.2 t
                      have htn : t < n := HOK0.out.rs t (by rw [HRW.out]; simp)
                      have HGT := Lib.hid hgt
                      obtain ⟨z, hz⟩ : ∃ z : Int, 256 * ((M.g.getD t 0 + 1 : Nat) : Int) + t = z := ⟨_, rfl⟩
                      have hzb : z ≤ 9223372036854775807 := by omega
                      have pm := p_make HQ.out (show k ≤ 1000000 by omega) t r HRW.out
                      rw [show (256 * (((AZ.M ⟨k, q, M, Rp, M, (.slice mx made.length mc), made, (.slice kx S.length kc), (ksOf S), (.slice sx S.length sc), (psOf S), X, [.int .i64 x0, .int .i64 x1]⟩).g.getD t 0 + 1 : Nat) : Int) + t) = z from hz] at pm
                      have PM := Lib.hid pm
                      have HZ := Lib.hid hz
                      clear hgt pm hz
                      go_wp2_with fail
                      refine PM.out.mono ?_
                      rintro e w4 ⟨rfl, hN⟩
                      have HQ4 := Lib.hid hN
                      clear hN HQ PM
                      have dm := d_make HQ4.out HOK0.out t r HRW.out (show M.g.getD t 0 < 1000000 by have := HGT.out; omega)
                      rw [show (256 * ((M.g.getD t 0 + 1 : Nat) : Int) + t) = z from HZ.out] at dm
                      have DM := Lib.hid dm
                      clear dm
                      go_wp2_with fail
                      refine DM.out.mono ?_
                      rintro e w6 ⟨rfl, hN⟩
                      have HQ6 := Lib.hid hN
                      clear hN HQ4 DM
                      go_wp2_with (at_builtin; refine wpList_append_ints (base := w.heap.size) rfl (.tmp 79) (.tmp 81) rfl rfl (show IRow _ w.heap.size (.slice mx made.length mc) made from (HQ6.out.below (fb_alloc (Below.refl _ _) (.cells #[.int .i64 z] 3))).made) rfl (SInts.own (show IRow _ w6.heap.size _ [z] from Arr.own (vs := [.int .i64 z]) (Arr.new w6 3 [.int .i64 z]) (Nat.le_refl _) (by simp [maxLen]))) (by simp; omega) (by have := HQ6.out.bel.size; simp; omega) ?_; intro v5 wn hr5 hg5 hf5; have HQ := Lib.hid (QP.app4 (HQ6.out.below (fb_alloc (Below.refl _ _) (.cells #[.int .i64 z] 3))) hr5 hg5 hf5); clear hr5 hg5 hf5)
                      have HOK := Lib.hid (HQ.out.ok (show k + 1 ≤ 1000000 by omega) hn1)
                      have HMD := Lib.hid (show ∀ j, (made ++ [z]).getD j 0 ≤ 9223372036854775807 from fun j => by
                        by_cases e1 : j < made.length
                        · rw [List.getD_eq_getElem?_getD, List.getElem?_append_left e1, ← List.getD_eq_getElem?_getD]; exact HK.out.2.2.2.2.2 j
                        · by_cases e2 : j = made.length
                          · subst e2; simp [List.getD_eq_getElem?_getD]; exact hzb
                          · rw [List.getD_eq_getElem?_getD, List.getElem?_eq_none (by simp; omega)]; simp)
                      clear HQ6
                      clear c0 c1
                      go_wp2
                      go_meet
                      exact ⟨z, k + 1, q, M.make t r, Rp, _, made ++ [z], _, _, S, rfl, rfl, rfl, rfl, rfl, hzb, Lib.hid ⟨HQ.out, by have := HK.out.1; omega, HK.out.2.1.mono (by omega), HK.out.2.2.1, by have := HK.out.2.2.2.1; simp <;> omega, by have := HK.out.2.2.2.2.1; simp <;> omega, HMD.out⟩⟩
          case rest =>
            obtain ⟨z, k', q', M', Rp', mv', made', kv', sv', S', rfl, rfl, rfl, rfl, rfl, hzb, hX⟩ := hcut
            have HQ := Lib.hid hX.out.1
            have HK' := Lib.hid hX.out.2
            have hk' : k' ≤ 120 := by have := HK'.out.1; omega
            have HOK := Lib.hid (HQ.out.ok (show k' ≤ 1000000 by omega) hn1)
            clear hX c0 c1 HK
            as_aux_lemma =>
              obtain ⟨w5, rfl⟩ : ∃ wo : World, wo = wc := ⟨_, rfl⟩
              obtain ⟨y, hy⟩ : ∃ y, (M').slot z = y := ⟨_, rfl⟩
              obtain ⟨ya, hya⟩ : ∃ ya, (M').at x1 = ya := ⟨_, rfl⟩
              obtain ⟨yl, hyl⟩ : ∃ yl, (n : Int) - (M').row.length = yl := ⟨_, rfl⟩
              have hQ := HQ.out
              have qv := Lib.hid (hy ▸ fun u => p_valid (hQ.below (bel_lat0 w5 u)) (show k' ≤ 1000000 by omega) z)
              have qs := Lib.hid (hy ▸ fun u => p_slot (hQ.below (bel_lat0 w5 u)) (show k' ≤ 1000000 by omega) z)
              have qds := Lib.hid (hy ▸ fun u => d_slot (hQ.below (bel_lat0 w5 u)) HOK.out z hzb)
              have qa := Lib.hid (hya ▸ fun u => p_at (hQ.below (bel_lat0 w5 u)) (show k' ≤ 1000000 by omega) x1)
              have qda := Lib.hid (hya ▸ fun u => d_at (hQ.below (bel_lat0 w5 u)) HOK.out x1)
              have ql := Lib.hid (hyl ▸ fun u => p_len (hQ.below (bel_lat0 w5 u)))
              have qdl := Lib.hid (hyl ▸ fun u => d_len (hQ.below (bel_lat0 w5 u)) HOK.out)
              have cx1 : ∀ u, (lat w5 u).cell? ⟨X, 1, none⟩ = some (.int .i64 x1) := fun u => (hQ.below (bel_lat0 w5 u)).box.cell 1
              clear hQ hy hya hyl
              go_upto_region 37 with fail
              refine wp_region_lat (by kernel_rfl) (by kernel_rfl) ?_
              repeat (go_big_quiet_step (first | (go_at_call 52; exact quiet_lat (qv.out _)) | (go_at_call 53; exact quiet_lat_same (qds.out _)) | (go_at_call 54; exact quiet_lat (qs.out _)) | (go_at_call 55; exact quiet_lat (qa.out _)) | (go_at_call 56; exact quiet_lat_same (qda.out _)) | (go_at_call 57; exact quiet_lat (ql.out _)) | (go_at_call 58; exact quiet_lat (qdl.out _))))
              refine wpQuiet_nil ?_
              intro _ hw'
              obtain ⟨nu, hw''⟩ := hw'
              subst hw''
              have HQ6 := Lib.hid (HQ.out.below (bel_lat0 w5 nu))
              clear qv qs qds qa qda ql qdl cx1 HQ
              go_wp2
              go_roundw
              case rel => first | exact ⟨i + 1, k', q', M', Rp', _, made', _, _, S', _, _, by omega, by omega, by go_num, rfl, rfl, rfl, rfl, Lib.hid ⟨HQ6.out.rest, HK'.out⟩⟩ | ((repeat apply Exists.intro); exact ⟨⟨i + 1, k', q', M', Rp', _, made', _, _, S', _, _, by omega, by omega, by go_num, rfl, rfl, rfl, rfl, Lib.hid ⟨HQ6.out.rest, HK'.out⟩⟩, rfl⟩)
              case measure => simp [intOf]; omega
        · obtain rfl : i = 120 := by omega
          as_aux_lemma =>
            obtain ⟨mx, mc, hmv⟩ := hst.out.1.made.any
            have hmv' : mv = .slice mx made.length mc := hmv
            subst hmv'
            have HQ := Lib.hid hst.out.1
            have HK := Lib.hid hst.out.2
            have hml : made.length ≤ 120 := by have := HK.out.2.2.2.1; omega
            have hk120 : k ≤ 120 := by have := HK.out.1; omega
            clear hst hmv
            go_wp2
            go_loopw [19] (fun x wr => ∃ j : Nat, j ≤ made.length ∧ x = .int .i64 j ∧ Hid (QR w wr ⟨A, T, n⟩ ⟨k, q, M, Rp, M, .slice mx made.length mc, made, kv, ksOf S, sv, psOf S, X0, xs0⟩)) (fun x _ => made.length - (intOf x).toNat)
            case atStart => exact ⟨0, Nat.zero_le _, rfl, HQ⟩
            case round =>
              obtain ⟨j, hj, rfl, hq⟩ := hrel
              obtain ⟨w5, rfl⟩ : ∃ wo : World, wo = wr := ⟨_, rfl⟩
              by_cases hjl : j < made.length
              · obtain ⟨G, cG, hG⟩ := hq.out.made.form (by show 0 < made.length; omega)
                injection hG with hG1 hG2 hG3
                subst hG1 hG3
                have hQ := hq.out
                have HOK := Lib.hid (hQ.ok (show k ≤ 1000000 by omega) hn1)
                obtain ⟨z, hz⟩ : ∃ z, made.getD j 0 = z := ⟨_, rfl⟩
                have hzb : z ≤ 9223372036854775807 := by rw [← hz]; exact HK.out.2.2.2.2.2 j
                obtain ⟨y, hy⟩ : ∃ y, M.slot z = y := ⟨_, rfl⟩
                have qv := Lib.hid (hy ▸ fun u => r_valid (hQ.below (bel_lat0 w5 u)) (show k ≤ 1000000 by omega) z)
                have qds := Lib.hid (hy ▸ fun u => r_dslot (hQ.below (bel_lat0 w5 u)) HOK.out z hzb)
                have cz : ∀ u, (lat w5 u).cell? ⟨G, j, none⟩ = some (.int .i64 z) := fun u => by rw [← hz]; exact (hQ.below (bel_lat0 w5 u)).made.cell hjl
                have j0 : (0 : Int) ≤ j := by omega
                have j1 : (j : Int) < made.length := by omega
                clear hQ hy hz hG2 HQ
                go_upto_region 42 with fail
                refine wp_region_lat (by kernel_rfl) (by kernel_rfl) ?_
                repeat (go_big_quiet_step (first | (go_at_call 52; exact quiet_lat (qv.out _)) | (go_at_call 53; exact quiet_lat_same (qds.out _))))
                refine wpQuiet_nil ?_
                intro _ hw'
                obtain ⟨nu, hw''⟩ := hw'
                subst hw''
                have HQ6 := Lib.hid (hq.out.below (bel_lat0 w5 nu))
                clear qv qds cz
                go_wp2
                go_roundw
                case rel => first | exact ⟨j + 1, by omega, by go_num, HQ6.out⟩ | ((repeat apply Exists.intro); exact ⟨⟨j + 1, by omega, by go_num, HQ6.out⟩, rfl⟩)
                case measure => simp [intOf]; omega
              · have HB := Lib.hid hq.out.bel
                have hjj : ¬ ((j : Int) < made.length) := by omega
                clear HQ
                go_wp2_with fail
                refine (aworks_any _).mono ?_
                rintro e wc ⟨rfl, hc⟩
                have HC := Lib.hid (fb_call HB.out hc)
                clear hc
                go_wp2
                go_ret
                exact ⟨rfl, HC.out⟩
      · obtain rfl : len = i := by omega
        clear hlt
        as_aux_lemma =>
          obtain ⟨mx, mc, hmv⟩ := hst.out.1.made.any
          have hmv' : mv = .slice mx made.length mc := hmv
          subst hmv'
          have HQ := Lib.hid hst.out.1
          have HK := Lib.hid hst.out.2
          have hml : made.length ≤ 120 := by have := HK.out.2.2.2.1; omega
          have hk120 : k ≤ 120 := by have := HK.out.1; omega
          clear hst hmv
          go_wp2
          go_loopw [19] (fun x wr => ∃ j : Nat, j ≤ made.length ∧ x = .int .i64 j ∧ Hid (QR w wr ⟨A, T, n⟩ ⟨k, q, M, Rp, M, .slice mx made.length mc, made, kv, ksOf S, sv, psOf S, X0, xs0⟩)) (fun x _ => made.length - (intOf x).toNat)
          case atStart => exact ⟨0, Nat.zero_le _, rfl, HQ⟩
          case round =>
            obtain ⟨j, hj, rfl, hq⟩ := hrel
            obtain ⟨w5, rfl⟩ : ∃ wo : World, wo = wr := ⟨_, rfl⟩
            by_cases hjl : j < made.length
            · obtain ⟨G, cG, hG⟩ := hq.out.made.form (by show 0 < made.length; omega)
              injection hG with hG1 hG2 hG3
              subst hG1 hG3
              have hQ := hq.out
              have HOK := Lib.hid (hQ.ok (show k ≤ 1000000 by omega) hn1)
              obtain ⟨z, hz⟩ : ∃ z, made.getD j 0 = z := ⟨_, rfl⟩
              have hzb : z ≤ 9223372036854775807 := by rw [← hz]; exact HK.out.2.2.2.2.2 j
              obtain ⟨y, hy⟩ : ∃ y, M.slot z = y := ⟨_, rfl⟩
              have qv := Lib.hid (hy ▸ fun u => r_valid (hQ.below (bel_lat0 w5 u)) (show k ≤ 1000000 by omega) z)
              have qds := Lib.hid (hy ▸ fun u => r_dslot (hQ.below (bel_lat0 w5 u)) HOK.out z hzb)
              have cz : ∀ u, (lat w5 u).cell? ⟨G, j, none⟩ = some (.int .i64 z) := fun u => by rw [← hz]; exact (hQ.below (bel_lat0 w5 u)).made.cell hjl
              have j0 : (0 : Int) ≤ j := by omega
              have j1 : (j : Int) < made.length := by omega
              clear hQ hy hz hG2 HQ
              go_upto_region 42 with fail
              refine wp_region_lat (by kernel_rfl) (by kernel_rfl) ?_
              repeat (go_big_quiet_step (first | (go_at_call 52; exact quiet_lat (qv.out _)) | (go_at_call 53; exact quiet_lat_same (qds.out _))))
              refine wpQuiet_nil ?_
              intro _ hw'
              obtain ⟨nu, hw''⟩ := hw'
              subst hw''
              have HQ6 := Lib.hid (hq.out.below (bel_lat0 w5 nu))
              clear qv qds cz
              go_wp2
              go_roundw
              case rel => first | exact ⟨j + 1, by omega, by go_num, HQ6.out⟩ | ((repeat apply Exists.intro); exact ⟨⟨j + 1, by omega, by go_num, HQ6.out⟩, rfl⟩)
              case measure => simp [intOf]; omega
            · have HB := Lib.hid hq.out.bel
              have hjj : ¬ ((j : Int) < made.length) := by omega
              clear HQ
              go_wp2_with fail
              refine (aworks_any _).mono ?_
              rintro e wc ⟨rfl, hc⟩
              have HC := Lib.hid (fb_call HB.out hc)
              clear hc
              go_wp2
              go_ret
              exact ⟨rfl, HC.out⟩
end Go.Proofs.Ytfkkkndigkchcaa
