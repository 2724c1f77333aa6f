/- The walk of some: sets by small numbers. No condition. -/
import Derived.Test.YtfkkkndigkchcaaTrailCells
import Derived.Test.YtfkkkndigkchcaaQTail
namespace Go.Proofs.Ytfkkkndigkchcaa
open Go.RowKit
attribute [local go_sem] Oper.semAt_some

/-- One of the sets. -/
def smS (x y : Int) (s : List Int × List (Int × Int)) : List Int × List (Int × Int) :=
  if x % 16 = 15 ∧ s.1.length < 40 then (s.1 ++ List.replicate (1 + y % 3).toNat 0, s.2 ++ [((-1 : Int), 1 + y % 3)]) else (setC s.1 (x % 20) (y - 100), setH s.1 s.2 (x % 20) (y - 100))
def smR (F : Nat → Nat → Int) (s : List Int × List (Int × Int)) : Nat → List Int × List (Int × Int)
  | 0 => s
  | n + 1 => smS (F n 0) (F n 1) (smR F s n)
theorem smS_keeps (x y : Int) (s : List Int × List (Int × Int)) {m : Nat} (hm : m ≤ s.2.length) : was (smS x y s).1 (smS x y s).2 m = was s.1 s.2 m ∧ (smS x y s).2.take m = s.2.take m ∧ m ≤ (smS x y s).2.length ∧ (smS x y s).2.length ≤ s.2.length + 1 ∧ (s.1.length ≤ 50 → (smS x y s).1.length ≤ 50) := by
  unfold smS
  split
  · rename_i h
    obtain ⟨n, hn⟩ : ∃ n : Nat, 1 + y % 3 = (n : Int) := ⟨(1 + y % 3).toNat, by omega⟩
    rw [hn, Int.toNat_natCast]
    refine ⟨was_alloc _ _ _ _ hm, List.take_append_of_le_length hm, by simp; omega, by simp, fun _ => by simp; omega⟩
  · obtain ⟨h1, h2⟩ := was_setCH (cs := s.1) (hs := s.2) (x % 20) (y - 100) hm
    obtain ⟨h3, h4⟩ := setH_len s.1 s.2 (x % 20) (y - 100)
    exact ⟨h1, h2, Nat.le_trans hm h3, h4, fun h => by show (setC _ _ _).length ≤ 50; rw [setC_len]; exact h⟩
theorem smR_keeps (F : Nat → Nat → Int) (s : List Int × List (Int × Int)) {m : Nat} (hm : m ≤ s.2.length) : ∀ n, was (smR F s n).1 (smR F s n).2 m = was s.1 s.2 m ∧ (smR F s n).2.take m = s.2.take m ∧ m ≤ (smR F s n).2.length ∧ (smR F s n).2.length ≤ s.2.length + n ∧ (s.1.length ≤ 50 → (smR F s n).1.length ≤ 50) := by
  intro n
  induction n with
  | zero => exact ⟨rfl, rfl, hm, Nat.le_refl _, id⟩
  | succ n ih =>
    obtain ⟨h1, h2, h3, h4, h5⟩ := ih
    obtain ⟨k1, k2, k3, k4, k5⟩ := smS_keeps (F n 0) (F n 1) (smR F s n) h3
    exact ⟨k1.trans h1, k2.trans h2, k3, by show (smS _ _ _).2.length ≤ _; omega, fun h => k5 (h5 h)⟩
theorem TrN.then {w0 w w' w2 : World} {T : Nat} {O O' : Nat → Prop} {cs2 : List Int} {hs2 : List (Int × Int)} (h : Moved w w' O) (hf : ∀ k, O' k → O k ∨ w.heap.size ≤ k) (h2 : TrN w0 w' w2 T O' cs2 hs2) : TrN w0 w w2 T O cs2 hs2 := by
  obtain ⟨O2, t2, f2⟩ := h2.st
  refine ⟨⟨O2, t2, fun k hk => ?_⟩, h.trans h2.mv hf⟩
  rcases f2 k hk with h3 | h3
  · exact hf k h3
  · have := h.size; exact .inr (by omega)
theorem TrN.after {w0 w w' : World} {T : Nat} {O O' : Nat → Prop} {cs : List Int} {hs : List (Int × Int)} (hm : Moved w w' O) (hf : ∀ k, O' k → O k ∨ w.heap.size ≤ k) (h : TrS w0 w' T O' cs hs) : TrN w0 w w' T O cs hs := ⟨⟨O', h, hf⟩, hm⟩

set_option maxRecDepth 100000 in
set_option maxHeartbeats 4000000 in
theorem some_any {w0 w : World} {T : Nat} {O : Nat → Prop} {s0 : List Int × List (Int × Int)} (h : TrS w0 w T O s0.1 s0.2) (hc : s0.1.length ≤ 50) (hh : s0.2.length ≤ 1000) (a : Option Addr) (len cap n : Nat) (F : Nat → Nat → Int) (hR : Rws w n .u8 2 (.slice a len cap) len F) (hnb : n ≤ w0.heap.size) (hl : (len : Int) ≤ 9223372036854775807) :
    Calls Try.prog 34 #[.pointer (some ⟨T, 0, none⟩), .slice a len cap] w fun e w' => e = .returned (.tuple #[]) ∧ TrN w0 w w' T O (smR F s0 (min len 60)).1 (smR F s0 (min len 60)).2 := by
  have HT := Lib.hid (And.intro h (And.intro hc (And.intro hh (And.intro hR hnb))))
  clear h hc hh hR hnb
  go_enter Try.func34, Try.ntmps34
  go_wp2
  go_loopw [4] (fun i wr => ∃ (k : Nat) (Ok : Nat → Prop) (s : List Int × List (Int × Int)), k ≤ len ∧ k ≤ 60 ∧ i = .int .i64 k ∧ Hid (s = smR F s0 k ∧ TrS w0 wr T Ok s.1 s.2 ∧ s.1.length ≤ 50 ∧ s.2.length ≤ 1000 + k ∧ Moved w wr O ∧ ∀ q, Ok q → O q ∨ w.heap.size ≤ q)) (fun i _ => len - (intOf i).toNat)
  case atStart => exact ⟨0, O, s0, Nat.zero_le _, by omega, rfl, ⟨rfl, HT.out.1, HT.out.2.1, HT.out.2.2.1, Moved.refl _ _, fun q hq => .inl hq⟩⟩
  case round =>
    obtain ⟨k, Ok, s, hk, hk6, rfl, hst⟩ := hrel
    by_cases hlt : k < len
    · by_cases h60 : k < 60
      · obtain ⟨a', c', e, _, _, hcells⟩ := HT.out.2.2.2.1
        injection e with e1 e2 e3
        subst e1 e3
        obtain ⟨b, o, rfl, hb, hcells⟩ := hcells.resolve_left (by omega)
        have hbo : ¬ O b := fun hO => by
          have := (HT.out.1.base hO).1; have := HT.out.2.2.2.2; omega
        have hbl : b < w.heap.size := by have := HT.out.2.2.2.2; have := HT.out.1.bel.size; omega
        have hbw : wr.heap[b]? = w.heap[b]? := hst.out.2.2.2.2.1.block b hbl hbo
        have hx := hcells k hlt 0 (by omega)
        have hy := hcells k hlt 1 (by omega)
        have hnext : smR F s0 (k + 1) = smS (F k 0) (F k 1) s := by show smS _ _ _ = _; rw [← hst.out.1]
        obtain ⟨x, hxx⟩ : ∃ x, F k 0 = x := ⟨_, rfl⟩
        obtain ⟨y, hyy⟩ : ∃ y, F k 1 = y := ⟨_, rfl⟩
        rw [hxx] at hx hnext
        rw [hyy] at hy hnext
        have bx := u8_bd hx.2
        have by_ := u8_bd hy.2
        have cx : wr.cell? ⟨b, o + k * 2, none⟩ = some (.int .u8 x) := (World.cell?_of_block (a := ⟨b, o + k * 2, none⟩) hbw).trans hx.1
        have cy : wr.cell? ⟨b, o + k * 2 + 1, none⟩ = some (.int .u8 y) := (World.cell?_of_block (a := ⟨b, o + k * 2 + 1, none⟩) hbw).trans hy.1
        have x0 := bx.1
        have x1 := bx.2
        have y0 := by_.1
        have y1 := by_.2
        have HN := Lib.hid hnext
        have HL := Lib.hid h60
        clear hx hy bx by_ hxx hyy hcells hbw hb hnext hbo hbl
        have hi0 : (0 : Int) ≤ k := by omega
        have hi1 : (k : Int) < len := by omega
        obtain ⟨lc, hlc⟩ : ∃ lc, s.1.length = lc := ⟨_, rfl⟩
        by_cases hA : x % 16 = 15 ∧ lc < 40
        · obtain ⟨h15, h40⟩ := hA
          have hB1 : (x % 16 == 15) = true := by simp [h15]
          have hE : smS x y s = (s.1 ++ List.replicate (1 + y % 3).toNat 0, s.2 ++ [((-1 : Int), 1 + y % 3)]) := by
            unfold smS; rw [if_pos ⟨h15, by omega⟩]
          have hlen := smS_keeps x y s (Nat.zero_le _)
          rw [hE] at hlen
          have HE := Lib.hid (And.intro (HN.out.trans hE) (And.intro (hlen.2.2.2.2 hst.out.2.2.1) hlen.2.2.2.1))
          clear hE hlen
          have HLC := Lib.hid hlc
          clear hlc
          go_wp2_with fail
          refine (tr_len hst.out.2.1).mono ?_
          rintro e w' ⟨he, rfl⟩
          rw [HLC.out] at he
          subst he
          go_wp2_with fail
          refine (tr_alloc hst.out.2.1 (1 + y % 3) ⟨by omega, by have := HLC.out; omega⟩ (by have := hst.out.2.2.2.1; omega)).mono ?_
          rintro e w2 ⟨_, hn⟩
          have hn2 := TrN.then hst.out.2.2.2.2.1 hst.out.2.2.2.2.2 hn
          obtain ⟨O2, t0, o0⟩ := hn2.st
          have H2 := Lib.hid (And.intro t0 (And.intro hn2.mv o0))
          clear hn hn2 t0 o0
          go_wp2
          go_roundw
          case rel => exact ⟨k + 1, O2, _, by omega, by omega, by go_num, ⟨HE.out.1.symm, H2.out.1, HE.out.2.1, Nat.le_trans HE.out.2.2 (by have := hst.out.2.2.2.1; omega), H2.out.2.1, H2.out.2.2⟩⟩
          case measure => simp [intOf]; omega
        · have hE : smS x y s = (setC s.1 (x % 20) (y - 100), setH s.1 s.2 (x % 20) (y - 100)) := by
            unfold smS; rw [if_neg (by rw [hlc]; exact hA)]
          have hlen := smS_keeps x y s (Nat.zero_le _)
          rw [hE] at hlen
          have HE := Lib.hid (And.intro (HN.out.trans hE) (And.intro (hlen.2.2.2.2 hst.out.2.2.1) hlen.2.2.2.1))
          clear hE hlen
          have HLC := Lib.hid hlc
          clear hlc
          by_cases h15 : x % 16 = 15
          · have h40 : ¬ lc < 40 := fun h => hA ⟨h15, h⟩
            have hB1 : (x % 16 == 15) = true := by simp [h15]
            clear hA
            go_wp2_with fail
            refine (tr_len hst.out.2.1).mono ?_
            rintro e w' ⟨he, rfl⟩
            rw [HLC.out] at he
            subst he
            go_wp2
            refine wp_region_drewN_tail 15 (by kernel_rfl) (by kernel_rfl) ?_
            simp only [List.take_succ_cons, List.take_zero, List.drop_succ_cons, List.drop_zero]
            repeat (go_big_quiet_step (fail))
            refine wpQuiet_nil ?_
            intro _ hw'
            obtain ⟨nq, hw''⟩ := hw'
            subst hw''
            go_wp2_with fail
            refine (tr_set (hst.out.2.1.below (bel_drewN (Below.refl _ _) nq)) (x % 20) (y - 100) (by have := hst.out.2.2.2.1; omega)).mono ?_
            rintro e w2 ⟨rfl, hn⟩
            have hn2 := TrN.then (hst.out.2.2.2.2.1.trans (Moved.of_below (bel_drewN (Below.refl _ _) nq) (fun _ => False)) (fun _ h => h.elim)) hst.out.2.2.2.2.2 hn
            obtain ⟨O2, t0, o0⟩ := hn2.st
            have H2 := Lib.hid (And.intro t0 (And.intro hn2.mv o0))
            clear hn hn2 t0 o0
            go_wp2
            go_roundw
            case rel => exact ⟨k + 1, O2, _, by omega, by omega, by go_num, ⟨HE.out.1.symm, H2.out.1, HE.out.2.1, Nat.le_trans HE.out.2.2 (by have := hst.out.2.2.2.1; omega), H2.out.2.1, H2.out.2.2⟩⟩
            case measure => simp [intOf]; omega
          · have hB1 : (x % 16 == 15) = false := by simp [h15]
            clear hA
            go_wp2
            refine wp_region_drewN_tail 15 (by kernel_rfl) (by kernel_rfl) ?_
            simp only [List.take_succ_cons, List.take_zero, List.drop_succ_cons, List.drop_zero]
            repeat (go_big_quiet_step (fail))
            refine wpQuiet_nil ?_
            intro _ hw'
            obtain ⟨nq, hw''⟩ := hw'
            subst hw''
            go_wp2_with fail
            refine (tr_set (hst.out.2.1.below (bel_drewN (Below.refl _ _) nq)) (x % 20) (y - 100) (by have := hst.out.2.2.2.1; omega)).mono ?_
            rintro e w2 ⟨rfl, hn⟩
            have hn2 := TrN.then (hst.out.2.2.2.2.1.trans (Moved.of_below (bel_drewN (Below.refl _ _) nq) (fun _ => False)) (fun _ h => h.elim)) hst.out.2.2.2.2.2 hn
            obtain ⟨O2, t0, o0⟩ := hn2.st
            have H2 := Lib.hid (And.intro t0 (And.intro hn2.mv o0))
            clear hn hn2 t0 o0
            go_wp2
            go_roundw
            case rel => exact ⟨k + 1, O2, _, by omega, by omega, by go_num, ⟨HE.out.1.symm, H2.out.1, HE.out.2.1, Nat.le_trans HE.out.2.2 (by have := hst.out.2.2.2.1; omega), H2.out.2.1, H2.out.2.2⟩⟩
            case measure => simp [intOf]; omega
      · obtain rfl : k = 60 := by omega
        go_wp2
        go_end0
        have e : min len 60 = 60 := by omega
        refine ⟨rfl, ?_⟩
        rw [e, ← hst.out.1]
        exact TrN.after hst.out.2.2.2.2.1 hst.out.2.2.2.2.2 hst.out.2.1
    · obtain rfl : len = k := by omega
      clear hlt
      go_wp2
      go_end0
      have e : min len 60 = len := by omega
      refine ⟨rfl, ?_⟩
      rw [e, ← hst.out.1]
      exact TrN.after hst.out.2.2.2.2.1 hst.out.2.2.2.2.2 hst.out.2.1
end Go.Proofs.Ytfkkkndigkchcaa
