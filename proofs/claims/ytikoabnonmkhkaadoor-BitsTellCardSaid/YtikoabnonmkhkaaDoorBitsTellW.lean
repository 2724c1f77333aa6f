/- The walk of BitsTell. -/
import Derived.Test.YtikoabnonmkhkaaDoorBitsR
namespace Go.Proofs.YtikoabnonmkhkaaDoor
open Go.RowKit

def DTell1 : List (Option Nat) := [some 7, some 8, some 9, some 5, none, some 6]
def TLTell1 (n0 a b c d : Nat) : List TyB := [
  .is (.agg #[.int .u64 a, .int .u64 b, .int .u64 c, .int .u64 d]),
  .is (.agg #[.int .u64 a, .int .u64 b, .int .u64 c, .int .u64 d]),
  .ints (lst [a, b, c, d]),
  .arr n0 24 [.int .u64 0, .int .u64 0, .int .u64 0, .int .u64 0]]
def DTell2 : List (Option Nat) := [some 10, some 11, some 12, some 13, some 14, some 15, some 16, some 17, some 18, some 19, some 20, some 21, some 22, some 23, some 24, some 25, some 26, some 27, some 28, some 29, some 30, some 31, some 32, some 33, some 34, some 35, some 36, some 37, some 38, some 39, some 40, some 41, some 42, some 43, some 44, some 45, some 46, some 47, some 48, some 49, some 50, some 51, some 52, some 53, some 54, some 55, some 56, some 57, some 58, some 59, some 60, some 61, some 4]
def TLTell2 (a b c d a1 b1 c1 d1 a2 b2 c2 d2 : Nat) (vl : Value) (i nx : Int) (bb : Bool) : List TyB := [
  .is (.agg #[.int .u64 a, .int .u64 b, .int .u64 c, .int .u64 d]),
  .is (.int .i64 i),
  .is (.bool bb),
  .is (vl),
  .is (.int .i64 i),
  .is (.bool bb),
  .is (.bool true),
  .is (.bool true),
  .is (.agg #[.int .u64 a, .int .u64 b, .int .u64 c, .int .u64 d]),
  .is (.int .i64 i),
  .is (.agg #[.int .u64 a1, .int .u64 b1, .int .u64 c1, .int .u64 d1]),
  .is (vl),
  .is (.int .i64 i),
  .rows (fun M => M.length ≤ 1000 ∧ ∀ x : Nat, x ∈ M ↔ x ∈ lst [a, b, c, d] ∨ ((x : Int) = i ∧ x < 256)),
  .is (.agg #[.int .u64 a1, .int .u64 b1, .int .u64 c1, .int .u64 d1]),
  .is (.bool true),
  .is (.bool true),
  .is (.bool true),
  .is (.agg #[.int .u64 a, .int .u64 b, .int .u64 c, .int .u64 d]),
  .is (.int .i64 i),
  .is (.agg #[.int .u64 a2, .int .u64 b2, .int .u64 c2, .int .u64 d2]),
  .is (vl),
  .is (.int .i64 i),
  .ints ((lst [a, b, c, d]).filter (fun x : Nat => decide ((x : Int) ≠ i))),
  .is (.agg #[.int .u64 a2, .int .u64 b2, .int .u64 c2, .int .u64 d2]),
  .is (.bool true),
  .is (.bool true),
  .is (.bool true),
  .is (.agg #[.int .u64 a, .int .u64 b, .int .u64 c, .int .u64 d]),
  .is (.int .i64 ((lst [a, b, c, d]).length : Nat)),
  .is (vl),
  .is (.int .i64 ((lst [a, b, c, d]).length : Nat)),
  .is (.bool true),
  .is (.bool true),
  .is (.bool true),
  .is (.agg #[.int .u64 a, .int .u64 b, .int .u64 c, .int .u64 d]),
  .is (.int .i64 i),
  .is (.int .i64 nx),
  .is (vl),
  .is (.int .i64 i),
  .is (.int .i64 nx),
  .is (.bool true),
  .is (.bool true),
  .is (.bool true),
  .is (.agg #[.int .u64 a, .int .u64 b, .int .u64 c, .int .u64 d]),
  .ints (lst [a, b, c, d]),
  .is (vl),
  .is (.bool true),
  .is (.bool true),
  .is (.bool true),
  .is (.bool true),
  .is (.bool true),
  .is (.bool true)]
set_option maxRecDepth 100000 in
set_option maxHeartbeats 8000000 in
theorem tell_walk {a b c d : Nat} (i : Int) (hi : i ≤ 9223372036854775807) (hwf : wfB [a, b, c, d]) (w : World) (hT : TabAt w) (h0 : 0 < w.heap.size) : Calls Tryd.prog 3 #[.agg #[.int .u64 a, .int .u64 b, .int .u64 c, .int .u64 d], .int .i64 i] w fun e w' => e = .returned (.bool true) ∧ Below w.heap.size w w' := by
  have hof := Lib.hid (fun W => rof_any hwf W)
  obtain ⟨a1, b1, c1, d1, hS1, _⟩ := wf_form (wf_addI hwf i)
  obtain ⟨a2, b2, c2, d2, hS2, _⟩ := wf_form (wf_delI hwf i)
  obtain ⟨nx, hnx⟩ := next_ex [a, b, c, d] i.toNat
  obtain ⟨bb, hhb⟩ : ∃ bb, hasI [a, b, c, d] i = bb := ⟨_, rfl⟩
  have hHas := Lib.hid (show ∀ W : World, Calls Tryd.prog 9 #[.agg #[.int .u64 a, .int .u64 b, .int .u64 c, .int .u64 d], .int .i64 i] W fun e w' => e = .returned (.bool bb) ∧ Below W.heap.size W w' from fun W => hhb ▸ bhas_any hwf i W)
  have hRHas := Lib.hid (show ∀ (W : World) (v : Value), Ints W W.heap.size v (zl (lst [a, b, c, d])) → Calls Tryd.prog 10 #[v, .int .i64 i] W fun e w' => e = .returned (.bool bb) ∧ W = w' from fun W v hI => by
    rw [← hhb, has_tell]; exact rhas_any _ v _ i W hI (Nat.le_trans (lst_le _) (by omega)))
  have hAdd := Lib.hid (show ∀ W : World, Calls Tryd.prog 11 #[.agg #[.int .u64 a, .int .u64 b, .int .u64 c, .int .u64 d], .int .i64 i] W fun e w' => e = .returned (.agg #[.int .u64 a1, .int .u64 b1, .int .u64 c1, .int .u64 d1]) ∧ Below W.heap.size W w' from fun W => by
    have := badd_any hwf i W; rw [hS1] at this; exact this)
  have hDel := Lib.hid (show ∀ W : World, Calls Tryd.prog 14 #[.agg #[.int .u64 a, .int .u64 b, .int .u64 c, .int .u64 d], .int .i64 i] W fun e w' => e = .returned (.agg #[.int .u64 a2, .int .u64 b2, .int .u64 c2, .int .u64 d2]) ∧ Below W.heap.size W w' from fun W => by
    have := bdel_any hwf i W; rw [hS2] at this; exact this)
  have hWAdd := Lib.hid (show ∀ (W : World) (v : Value) (M : List Nat), M.length ≤ 1000 → (∀ x : Nat, x ∈ M ↔ x ∈ lst [a, b, c, d] ∨ ((x : Int) = i ∧ x < 256)) → Ints W W.heap.size v (zl M) → Calls Tryd.prog 12 #[v] W fun e w' => e = .returned (.agg #[.int .u64 a1, .int .u64 b1, .int .u64 c1, .int .u64 d1]) ∧ Below W.heap.size W w' from fun W v M hl hm hI => by
    obtain ⟨h1, h2⟩ := words_add hwf i hm
    have := rwords_any v M W hI hl h1
    rw [← h2, hS1] at this; exact this)
  have hWDel := Lib.hid (show ∀ (W : World) (v : Value), Ints W W.heap.size v (zl ((lst [a, b, c, d]).filter (fun x : Nat => decide ((x : Int) ≠ i)))) → Calls Tryd.prog 12 #[v] W fun e w' => e = .returned (.agg #[.int .u64 a2, .int .u64 b2, .int .u64 c2, .int .u64 d2]) ∧ Below W.heap.size W w' from fun W v hI => by
    obtain ⟨h1, h2⟩ := words_del hwf i
    have := rwords_any v _ W hI (filter_le _ _) h1
    rw [← h2, hS2] at this; exact this)
  have hLen := Lib.hid (show ∀ W : World, Calls Tryd.prog 16 #[.agg #[.int .u64 a, .int .u64 b, .int .u64 c, .int .u64 d]] W fun e w' => e = .returned (.int .i64 ((lst [a, b, c, d]).length : Nat)) ∧ Below W.heap.size W w' from fun W => blen_any hwf W)
  have hNext := Lib.hid (show ∀ W : World, TabAt W → 0 < W.heap.size → Calls Tryd.prog 17 #[.agg #[.int .u64 a, .int .u64 b, .int .u64 c, .int .u64 d], .int .i64 i] W fun e w' => e = .returned (.int .i64 nx) ∧ Below W.heap.size W w' from fun W hT h0 =>
    (bnext_any hwf i hi W hT h0).mono fun e w' ⟨v, he, hv, hb⟩ => ⟨by rw [he, next_unique hv hnx], hb⟩)
  have hRNext := Lib.hid (show ∀ (W : World) (v : Value), Ints W W.heap.size v (zl (lst [a, b, c, d])) → Calls Tryd.prog 18 #[v, .int .i64 i] W fun e w' => e = .returned (.int .i64 nx) ∧ W = w' from fun W v hI =>
    (rnext_any _ v _ i W hI (Nat.le_trans (lst_le _) (by omega))).mono fun e w' ⟨v, he, hv, hb⟩ => ⟨by rw [he, next_unique (first_next hv) hnx], hb⟩)
  have hAll := Lib.hid (show ∀ W : World, TabAt W → 0 < W.heap.size → Calls Tryd.prog 20 #[.agg #[.int .u64 a, .int .u64 b, .int .u64 c, .int .u64 d]] W fun e w' => ∃ v, e = .returned v ∧ Ints w' w'.heap.size v (zl (lst [a, b, c, d])) ∧ Below W.heap.size W w' from fun W hT h0 => ball_any hwf W hT h0)
  clear hhb hnx hS1 hS2 hwf hi
  go_enter Tryd.func3, Tryd.ntmps3
  go_wp2
  refine wp_gen fun a0 w0 ha0 hw0 => ?_
  obtain ⟨A, hAe⟩ : ∃ A, w.heap.size = A := ⟨_, rfl⟩
  have hA : Arr w0 A 23 [.int .u64 a, .int .u64 b, .int .u64 c, .int .u64 d] := by rw [hw0, ← hAe]; exact Arr.new w _ _
  have hbl : Below w.heap.size w w0 := by rw [hw0]; exact fb_alloc (Below.refl _ _) _
  have hS0 : StB w0 w0 := ⟨Below.refl _ _, hT.below h0 hbl, Nat.lt_of_lt_of_le h0 hbl.size⟩
  have z : a0.tmps.size = 62 := by rw [ha0]; rfl
  have d0 : a0.defers = [] := by rw [ha0]
  have e2 : a0.tmps[2]? = some (.pointer (some ⟨A, 0, none⟩)) := by rw [ha0, ← hAe]; rfl
  have e1 : a0.tmps[1]? = some (.int .i64 i) := by rw [ha0]; rfl
  obtain ⟨n0, hn0⟩ : ∃ n0, w0.heap.size = n0 := ⟨_, rfl⟩
  have HTT := Lib.hid (And.intro hT h0)
  clear ha0 hT h0 hAe
  have HBL := Lib.hid hbl
  clear hbl
  refine wp_region_typed_tail 4 DTell1 [] (fun k_ v_ w_ => ((TLTell1 n0 a b c d).getD k_ .any).ok v_ w_) (fun w w' => Below w.heap.size w w') (fun _ w => StB w0 w) (by kernel_rfl) (by kernel_rfl) (by kernel_rfl) (by rw [z]; kernel_rfl) (by kernel_rfl) (by kernel_rfl) (by kernel_rfl) (by decide) (fun _ _ _ _ h hr => TyB.mono _ _ _ _ h hr) (fun _ h => hS0.first h) (steps_of ?_) ?_
  · clear hS0
    refine steps_cons (not_ch (by kernel_rfl) fun _n act w K hS hd ham hdep hK => ?_) ?_
    · skip
      have h2 := (ham 2 (by kernel_rfl)).trans e2
      have HK := Lib.hid hK
      have HS := Lib.hid hS
      clear hK ham hdep hS hd
      refine go_plain rfl ?_
      obtain ⟨c0, c1, c2, c3⟩ := cellsK hA HS.out.1
      go_simp
      exact HK.out _ w (Below.refl _ _) HS.out rfl
    refine steps_cons (not_ch (by kernel_rfl) fun _n act w K hS hd ham hdep hK => ?_) ?_
    · skip
      have h2 := (ham 2 (by kernel_rfl)).trans e2
      have HK := Lib.hid hK
      have HS := Lib.hid hS
      clear hK ham hdep hS hd
      refine go_plain rfl ?_
      obtain ⟨c0, c1, c2, c3⟩ := cellsK hA HS.out.1
      go_simp
      exact HK.out _ w (Below.refl _ _) HS.out rfl
    refine steps_cons (not_ch (by kernel_rfl) fun _n act w K hS hd ham hdep hK => ?_) ?_
    · skip
      obtain ⟨x8, h8, t8⟩ := hdep ⟨1, .data⟩ (by simp) rfl 8 rfl
      rw [show x8 = .agg #[.int .u64 a, .int .u64 b, .int .u64 c, .int .u64 d] from t8] at h8
      clear t8
      have HK := Lib.hid hK
      have HS := Lib.hid hS
      clear hK ham hdep hS hd
      refine go_plain rfl ?_
      go_simp
      refine (hof.out w).mono ?_
      rintro e w' ⟨v, rfl, hI, hb⟩
      exact HK.out _ w' hb (StB.bel HS.out hb) hI
    refine steps_cons (not_ch (by kernel_rfl) fun _n act w K hS hd ham hdep hK => ?_) ?_
    · skip
      have HK := Lib.hid hK
      have HS := Lib.hid hS
      clear hK ham hdep hS hd
      refine go_plain rfl ?_
      go_simp
      exact HK.out _ _ (fb_alloc (Below.refl _ _) _) (StB.bel HS.out (fb_alloc (Below.refl _ _) _)) ⟨w.heap.size, rfl, by rw [← hn0]; exact HS.out.1.size, Arr.new w _ _⟩
    exact steps_done 4 (by omega)
  · intro vs a1 w1 hF hty hS
    obtain ⟨B, hp, hBn, hB⟩ := hty 3 (by decide)
    have hIl : Ints w1 w1.heap.size (vs 2) (zl (lst [a, b, c, d])) := hty 2 (by decide)
    have hv0 : vs 0 = .agg #[.int .u64 a, .int .u64 b, .int .u64 c, .int .u64 d] := hty 0 (by decide)
    have h7 := hF.mine 0 7 (by kernel_rfl) (by kernel_rfl)
    have h5 := hF.mine 3 5 (by kernel_rfl) (by kernel_rfl)
    have h9 := hF.mine 2 9 (by kernel_rfl) (by kernel_rfl)
    rw [hp] at h5
    rw [hv0] at h7
    obtain ⟨vl, hvl⟩ : ∃ vl, vs 2 = vl := ⟨_, rfl⟩
    rw [hvl] at h9 hIl
    have k1 := (hF.amb [some 7, some 8, some 9, some 5] (by kernel_rfl) 1 (by kernel_rfl)).trans e1
    have z1 := hF.size.trans z
    have d1 := hF.defers.trans d0
    have hbl1 := fb_call HBL.out hS.1
    have g0 : w1.cell? ⟨B, 0, none⟩ = some (.int .u64 0) := hB.cell 0
    have g1 : w1.cell? ⟨B, 1, none⟩ = some (.int .u64 0) := hB.cell 1
    have g2 : w1.cell? ⟨B, 2, none⟩ = some (.int .u64 0) := hB.cell 2
    have g3 : w1.cell? ⟨B, 3, none⟩ = some (.int .u64 0) := hB.cell 3
    have q0 := hB.frozen 0
    have q1 := hB.frozen 1
    have q2 := hB.frozen 2
    have q3 := hB.frozen 3
    have hwB : w.heap.size ≤ B := Nat.le_trans HBL.out.size (by rw [hn0]; exact hBn)
    obtain ⟨s1, s2, s3, _⟩ := set_stored (wa := w) hbl1 hB hwB a b c d
    have s4 := s3 _ _ _ hIl
    have HX := Lib.hid (And.intro s1 (And.intro s2 (And.intro s4 z1)))
    obtain ⟨tm, df⟩ := a1
    obtain rfl : df = [] := d1
    clear hF hty hS hbl1 hB hIl hS0 hA hv0 hvl hp hBn z1 e1 e2 z d0 hof HBL s1 s2 s3 s4 hwB hn0
    simp only [List.drop_succ_cons, List.drop_zero]
    go_upto_region 2 with fail
    refine wp_gen fun a0 w2 ha0 hw2 => ?_
    obtain ⟨hbl, hA, hI0, z1⟩ := HX.out
    rw [← hw2] at hbl hA hI0
    have hI0 : Ints w2 w2.heap.size vl (zl (lst [a, b, c, d])) := by
      rw [show w2.heap.size = w1.heap.size by rw [hw2]; simp]; exact hI0
    have hS0 : StB w2 w2 := ⟨Below.refl _ _, HTT.out.1.below HTT.out.2 hbl, Nat.lt_of_lt_of_le HTT.out.2 hbl.size⟩
    have z : a0.tmps.size = 62 := by rw [ha0]; simpa using z1
    have d0 : a0.defers = [] := by rw [ha0]
    have e1 : a0.tmps[1]? = some (.int .i64 i) := by rw [ha0]; simpa using k1
    have e5 : a0.tmps[5]? = some (.pointer (some ⟨B, 0, none⟩)) := by rw [ha0]; simpa using h5
    have e6 : a0.tmps[6]? = some vl := by rw [ha0]; simp [show 6 < tm.size from by rw [show tm.size = 62 from z1]; omega]
    have HBL := Lib.hid hbl
    clear hw2 ha0 hbl HX h5 h7 h9 k1 g0 g1 g2 g3 q0 q1 q2 q3 z1 HTT hw0
    refine wp_region_typed 53 DTell2 [] (fun k_ v_ w_ => ((TLTell2 a b c d a1 b1 c1 d1 a2 b2 c2 d2 vl i nx bb).getD k_ .any).ok v_ w_) (fun w w' => Below w.heap.size w w') (fun _ w => StB w2 w) (by kernel_rfl) (by kernel_rfl) (by kernel_rfl) (by kernel_rfl) (by rw [z]; kernel_rfl) (by kernel_rfl) (by kernel_rfl) (fun _ _ _ _ h hr => TyB.mono _ _ _ _ h hr) (fun _ h => hS0.first h) (steps_of ?_) ?_
    · clear hS0
      refine steps_cons (not_ch (by kernel_rfl) fun _n act w K hS hd ham hdep hK => ?_) ?_
      · skip
        have h5 := (ham 5 (by kernel_rfl)).trans e5
        have HK := Lib.hid hK
        have HS := Lib.hid hS
        clear hK ham hdep hS hd
        refine go_plain rfl ?_
        obtain ⟨c0, c1, c2, c3⟩ := cellsK hA HS.out.1
        go_simp
        exact HK.out _ w (Below.refl _ _) HS.out rfl
      refine steps_cons (not_ch (by kernel_rfl) fun _n act w K hS hd ham hdep hK => ?_) ?_
      · skip
        have h1 := (ham 1 (by kernel_rfl)).trans e1
        have HK := Lib.hid hK
        have HS := Lib.hid hS
        clear hK ham hdep hS hd
        refine go_plain rfl ?_
        go_simp
        exact HK.out _ w (Below.refl _ _) HS.out rfl
      refine steps_cons (not_ch (by kernel_rfl) fun _n act w K hS hd ham hdep hK => ?_) ?_
      · skip
        obtain ⟨x10, h10, t10⟩ := hdep ⟨0, .data⟩ (by simp) rfl 10 rfl
        rw [show x10 = .agg #[.int .u64 a, .int .u64 b, .int .u64 c, .int .u64 d] from t10] at h10
        clear t10
        obtain ⟨x11, h11, t11⟩ := hdep ⟨1, .data⟩ (by simp) rfl 11 rfl
        rw [show x11 = .int .i64 i from t11] at h11
        clear t11
        have HK := Lib.hid hK
        have HS := Lib.hid hS
        clear hK ham hdep hS hd
        refine go_plain rfl ?_
        go_simp
        refine (hHas.out w).mono ?_
        rintro e w' ⟨rfl, hb⟩
        exact HK.out _ w' hb (StB.bel HS.out hb) rfl
      refine steps_cons (not_ch (by kernel_rfl) fun _n act w K hS hd ham hdep hK => ?_) ?_
      · skip
        have h6 := (ham 6 (by kernel_rfl)).trans e6
        have HK := Lib.hid hK
        have HS := Lib.hid hS
        clear hK ham hdep hS hd
        refine go_plain rfl ?_
        go_simp
        exact HK.out _ w (Below.refl _ _) HS.out rfl
      refine steps_cons (not_ch (by kernel_rfl) fun _n act w K hS hd ham hdep hK => ?_) ?_
      · skip
        have h1 := (ham 1 (by kernel_rfl)).trans e1
        have HK := Lib.hid hK
        have HS := Lib.hid hS
        clear hK ham hdep hS hd
        refine go_plain rfl ?_
        go_simp
        exact HK.out _ w (Below.refl _ _) HS.out rfl
      refine steps_cons (not_ch (by kernel_rfl) fun _n act w K hS hd ham hdep hK => ?_) ?_
      · skip
        obtain ⟨x13, h13, t13⟩ := hdep ⟨3, .data⟩ (by simp) rfl 13 rfl
        rw [show x13 = vl from t13] at h13
        clear t13
        obtain ⟨x14, h14, t14⟩ := hdep ⟨4, .data⟩ (by simp) rfl 14 rfl
        rw [show x14 = .int .i64 i from t14] at h14
        clear t14
        have HK := Lib.hid hK
        have HS := Lib.hid hS
        clear hK ham hdep hS hd
        refine go_plain rfl ?_
        go_simp
        refine (hRHas.out w _ (ints_later hI0 HS.out.1)).mono ?_
        rintro e w' ⟨rfl, rfl⟩
        exact HK.out _ w (Below.refl _ _) HS.out rfl
      refine steps_cons (not_ch (by kernel_rfl) fun _n act w K hS hd ham hdep hK => ?_) ?_
      · skip
        obtain ⟨x12, h12, t12⟩ := hdep ⟨2, .data⟩ (by simp) rfl 12 rfl
        rw [show x12 = .bool bb from t12] at h12
        clear t12
        obtain ⟨x15, h15, t15⟩ := hdep ⟨5, .data⟩ (by simp) rfl 15 rfl
        rw [show x15 = .bool bb from t15] at h15
        clear t15
        have HK := Lib.hid hK
        have HS := Lib.hid hS
        clear hK ham hdep hS hd
        refine go_plain rfl ?_
        go_simp
        exact HK.out _ w (Below.refl _ _) HS.out rfl
      refine steps_cons (not_ch (by kernel_rfl) fun _n act w K hS hd ham hdep hK => ?_) ?_
      · skip
        obtain ⟨x16, h16, t16⟩ := hdep ⟨6, .data⟩ (by simp) rfl 16 rfl
        rw [show x16 = .bool true from t16] at h16
        clear t16
        have HK := Lib.hid hK
        have HS := Lib.hid hS
        clear hK ham hdep hS hd
        refine go_plain rfl ?_
        go_simp
        exact HK.out _ w (Below.refl _ _) HS.out rfl
      refine steps_cons (not_ch (by kernel_rfl) fun _n act w K hS hd ham hdep hK => ?_) ?_
      · skip
        have h5 := (ham 5 (by kernel_rfl)).trans e5
        obtain ⟨x17, h17, t17⟩ := hdep ⟨7, .guard⟩ (by simp) rfl 17 rfl
        rw [show x17 = .bool true from t17] at h17
        clear t17
        have HK := Lib.hid hK
        have HS := Lib.hid hS
        clear hK ham hdep hS hd
        refine go_guard 7 17 true rfl rfl h17 ?_
        obtain ⟨c0, c1, c2, c3⟩ := cellsK hA HS.out.1
        go_simp
        exact HK.out _ w (Below.refl _ _) HS.out rfl
      refine steps_cons (not_ch (by kernel_rfl) fun _n act w K hS hd ham hdep hK => ?_) ?_
      · skip
        have h1 := (ham 1 (by kernel_rfl)).trans e1
        obtain ⟨x17, h17, t17⟩ := hdep ⟨7, .guard⟩ (by simp) rfl 17 rfl
        rw [show x17 = .bool true from t17] at h17
        clear t17
        have HK := Lib.hid hK
        have HS := Lib.hid hS
        clear hK ham hdep hS hd
        refine go_guard 7 17 true rfl rfl h17 ?_
        go_simp
        exact HK.out _ w (Below.refl _ _) HS.out rfl
      refine steps_cons (not_ch (by kernel_rfl) fun _n act w K hS hd ham hdep hK => ?_) ?_
      · skip
        obtain ⟨x17, h17, t17⟩ := hdep ⟨7, .chain⟩ (by simp) rfl 17 rfl
        rw [show x17 = .bool true from t17] at h17
        clear t17
        obtain ⟨x18, h18, t18⟩ := hdep ⟨8, .data⟩ (by simp) rfl 18 rfl
        rw [show x18 = .agg #[.int .u64 a, .int .u64 b, .int .u64 c, .int .u64 d] from t18] at h18
        clear t18
        obtain ⟨x19, h19, t19⟩ := hdep ⟨9, .data⟩ (by simp) rfl 19 rfl
        rw [show x19 = .int .i64 i from t19] at h19
        clear t19
        have HK := Lib.hid hK
        have HS := Lib.hid hS
        clear hK ham hdep hS hd
        refine go_guard 7 17 true rfl rfl h17 ?_
        go_simp
        refine (hAdd.out w).mono ?_
        rintro e w' ⟨rfl, hb⟩
        exact HK.out _ w' hb (StB.bel HS.out hb) rfl
      refine steps_cons (not_ch (by kernel_rfl) fun _n act w K hS hd ham hdep hK => ?_) ?_
      · skip
        have h6 := (ham 6 (by kernel_rfl)).trans e6
        obtain ⟨x17, h17, t17⟩ := hdep ⟨7, .guard⟩ (by simp) rfl 17 rfl
        rw [show x17 = .bool true from t17] at h17
        clear t17
        have HK := Lib.hid hK
        have HS := Lib.hid hS
        clear hK ham hdep hS hd
        refine go_guard 7 17 true rfl rfl h17 ?_
        go_simp
        exact HK.out _ w (Below.refl _ _) HS.out rfl
      refine steps_cons (not_ch (by kernel_rfl) fun _n act w K hS hd ham hdep hK => ?_) ?_
      · skip
        have h1 := (ham 1 (by kernel_rfl)).trans e1
        obtain ⟨x17, h17, t17⟩ := hdep ⟨7, .guard⟩ (by simp) rfl 17 rfl
        rw [show x17 = .bool true from t17] at h17
        clear t17
        have HK := Lib.hid hK
        have HS := Lib.hid hS
        clear hK ham hdep hS hd
        refine go_guard 7 17 true rfl rfl h17 ?_
        go_simp
        exact HK.out _ w (Below.refl _ _) HS.out rfl
      refine steps_cons (not_ch (by kernel_rfl) fun _n act w K hS hd ham hdep hK => ?_) ?_
      · skip
        obtain ⟨x17, h17, t17⟩ := hdep ⟨7, .guard⟩ (by simp) rfl 17 rfl
        rw [show x17 = .bool true from t17] at h17
        clear t17
        obtain ⟨x21, h21, t21⟩ := hdep ⟨11, .data⟩ (by simp) rfl 21 rfl
        rw [show x21 = vl from t21] at h21
        clear t21
        obtain ⟨x22, h22, t22⟩ := hdep ⟨12, .data⟩ (by simp) rfl 22 rfl
        rw [show x22 = .int .i64 i from t22] at h22
        clear t22
        have HK := Lib.hid hK
        have HS := Lib.hid hS
        clear hK ham hdep hS hd
        refine go_guard 7 17 true rfl rfl h17 ?_
        go_simp
        refine (radd_any vl (lst [a, b, c, d]) i w (ints_later hI0 HS.out.1) (Nat.le_trans (lst_le _) (by omega))).mono ?_
        rintro e w' ⟨u, M, rfl, hI, hb, hl, hm⟩
        exact HK.out _ w' hb (StB.bel HS.out hb) ⟨M, ⟨Nat.le_trans hl (by have := lst_le [a, b, c, d]; omega), hm⟩, hI⟩
      refine steps_cons (not_ch (by kernel_rfl) fun _n act w K hS hd ham hdep hK => ?_) ?_
      · skip
        obtain ⟨x17, h17, t17⟩ := hdep ⟨7, .guard⟩ (by simp) rfl 17 rfl
        rw [show x17 = .bool true from t17] at h17
        clear t17
        obtain ⟨x23, h23, t23⟩ := hdep ⟨13, .data⟩ (by simp) rfl 23 rfl
        have t23 := Lib.hid t23
        have HK := Lib.hid hK
        have HS := Lib.hid hS
        clear hK ham hdep hS hd
        refine go_guard 7 17 true rfl rfl h17 ?_
        obtain ⟨M, ⟨hl, hm⟩, hI⟩ := t23.out
        go_simp
        refine (hWAdd.out w _ M hl hm hI).mono ?_
        rintro e w' ⟨rfl, hb⟩
        exact HK.out _ w' hb (StB.bel HS.out hb) rfl
      refine steps_cons (not_ch (by kernel_rfl) fun _n act w K hS hd ham hdep hK => ?_) ?_
      · skip
        obtain ⟨x17, h17, t17⟩ := hdep ⟨7, .guard⟩ (by simp) rfl 17 rfl
        rw [show x17 = .bool true from t17] at h17
        clear t17
        obtain ⟨x20, h20, t20⟩ := hdep ⟨10, .data⟩ (by simp) rfl 20 rfl
        rw [show x20 = .agg #[.int .u64 a1, .int .u64 b1, .int .u64 c1, .int .u64 d1] from t20] at h20
        clear t20
        obtain ⟨x24, h24, t24⟩ := hdep ⟨14, .data⟩ (by simp) rfl 24 rfl
        rw [show x24 = .agg #[.int .u64 a1, .int .u64 b1, .int .u64 c1, .int .u64 d1] from t24] at h24
        clear t24
        have HK := Lib.hid hK
        have HS := Lib.hid hS
        clear hK ham hdep hS hd
        refine go_guard 7 17 true rfl rfl h17 ?_
        go_simp
        exact HK.out _ w (Below.refl _ _) HS.out rfl
      refine steps_cons (not_ch (by kernel_rfl) fun _n act w K hS hd ham hdep hK => ?_) ?_
      · skip
        obtain ⟨x17, h17, t17⟩ := hdep ⟨7, .data⟩ (by simp) rfl 17 rfl
        rw [show x17 = .bool true from t17] at h17
        clear t17
        obtain ⟨x25, h25, t25⟩ := hdep ⟨15, .data⟩ (by simp) rfl 25 rfl
        rw [show x25 = .bool true from t25] at h25
        clear t25
        have HK := Lib.hid hK
        have HS := Lib.hid hS
        clear hK ham hdep hS hd
        refine go_plain rfl ?_
        go_simp
        exact HK.out _ w (Below.refl _ _) HS.out rfl
      refine steps_cons (not_ch (by kernel_rfl) fun _n act w K hS hd ham hdep hK => ?_) ?_
      · skip
        obtain ⟨x26, h26, t26⟩ := hdep ⟨16, .data⟩ (by simp) rfl 26 rfl
        rw [show x26 = .bool true from t26] at h26
        clear t26
        have HK := Lib.hid hK
        have HS := Lib.hid hS
        clear hK ham hdep hS hd
        refine go_plain rfl ?_
        go_simp
        exact HK.out _ w (Below.refl _ _) HS.out rfl
      refine steps_cons (not_ch (by kernel_rfl) fun _n act w K hS hd ham hdep hK => ?_) ?_
      · skip
        have h5 := (ham 5 (by kernel_rfl)).trans e5
        obtain ⟨x27, h27, t27⟩ := hdep ⟨17, .guard⟩ (by simp) rfl 27 rfl
        rw [show x27 = .bool true from t27] at h27
        clear t27
        have HK := Lib.hid hK
        have HS := Lib.hid hS
        clear hK ham hdep hS hd
        refine go_guard 17 27 true rfl rfl h27 ?_
        obtain ⟨c0, c1, c2, c3⟩ := cellsK hA HS.out.1
        go_simp
        exact HK.out _ w (Below.refl _ _) HS.out rfl
      refine steps_cons (not_ch (by kernel_rfl) fun _n act w K hS hd ham hdep hK => ?_) ?_
      · skip
        have h1 := (ham 1 (by kernel_rfl)).trans e1
        obtain ⟨x27, h27, t27⟩ := hdep ⟨17, .guard⟩ (by simp) rfl 27 rfl
        rw [show x27 = .bool true from t27] at h27
        clear t27
        have HK := Lib.hid hK
        have HS := Lib.hid hS
        clear hK ham hdep hS hd
        refine go_guard 17 27 true rfl rfl h27 ?_
        go_simp
        exact HK.out _ w (Below.refl _ _) HS.out rfl
      refine steps_cons (not_ch (by kernel_rfl) fun _n act w K hS hd ham hdep hK => ?_) ?_
      · skip
        obtain ⟨x27, h27, t27⟩ := hdep ⟨17, .chain⟩ (by simp) rfl 27 rfl
        rw [show x27 = .bool true from t27] at h27
        clear t27
        obtain ⟨x28, h28, t28⟩ := hdep ⟨18, .data⟩ (by simp) rfl 28 rfl
        rw [show x28 = .agg #[.int .u64 a, .int .u64 b, .int .u64 c, .int .u64 d] from t28] at h28
        clear t28
        obtain ⟨x29, h29, t29⟩ := hdep ⟨19, .data⟩ (by simp) rfl 29 rfl
        rw [show x29 = .int .i64 i from t29] at h29
        clear t29
        have HK := Lib.hid hK
        have HS := Lib.hid hS
        clear hK ham hdep hS hd
        refine go_guard 17 27 true rfl rfl h27 ?_
        go_simp
        refine (hDel.out w).mono ?_
        rintro e w' ⟨rfl, hb⟩
        exact HK.out _ w' hb (StB.bel HS.out hb) rfl
      refine steps_cons (not_ch (by kernel_rfl) fun _n act w K hS hd ham hdep hK => ?_) ?_
      · skip
        have h6 := (ham 6 (by kernel_rfl)).trans e6
        obtain ⟨x27, h27, t27⟩ := hdep ⟨17, .guard⟩ (by simp) rfl 27 rfl
        rw [show x27 = .bool true from t27] at h27
        clear t27
        have HK := Lib.hid hK
        have HS := Lib.hid hS
        clear hK ham hdep hS hd
        refine go_guard 17 27 true rfl rfl h27 ?_
        go_simp
        exact HK.out _ w (Below.refl _ _) HS.out rfl
      refine steps_cons (not_ch (by kernel_rfl) fun _n act w K hS hd ham hdep hK => ?_) ?_
      · skip
        have h1 := (ham 1 (by kernel_rfl)).trans e1
        obtain ⟨x27, h27, t27⟩ := hdep ⟨17, .guard⟩ (by simp) rfl 27 rfl
        rw [show x27 = .bool true from t27] at h27
        clear t27
        have HK := Lib.hid hK
        have HS := Lib.hid hS
        clear hK ham hdep hS hd
        refine go_guard 17 27 true rfl rfl h27 ?_
        go_simp
        exact HK.out _ w (Below.refl _ _) HS.out rfl
      refine steps_cons (not_ch (by kernel_rfl) fun _n act w K hS hd ham hdep hK => ?_) ?_
      · skip
        obtain ⟨x27, h27, t27⟩ := hdep ⟨17, .guard⟩ (by simp) rfl 27 rfl
        rw [show x27 = .bool true from t27] at h27
        clear t27
        obtain ⟨x31, h31, t31⟩ := hdep ⟨21, .data⟩ (by simp) rfl 31 rfl
        rw [show x31 = vl from t31] at h31
        clear t31
        obtain ⟨x32, h32, t32⟩ := hdep ⟨22, .data⟩ (by simp) rfl 32 rfl
        rw [show x32 = .int .i64 i from t32] at h32
        clear t32
        have HK := Lib.hid hK
        have HS := Lib.hid hS
        clear hK ham hdep hS hd
        refine go_guard 17 27 true rfl rfl h27 ?_
        go_simp
        refine (rdel_any vl (lst [a, b, c, d]) i w (ints_later hI0 HS.out.1) (Nat.le_trans (lst_le _) (by omega))).mono ?_
        rintro e w' ⟨u, rfl, hI, hb⟩
        exact HK.out _ w' hb (StB.bel HS.out hb) hI
      refine steps_cons (not_ch (by kernel_rfl) fun _n act w K hS hd ham hdep hK => ?_) ?_
      · skip
        obtain ⟨x27, h27, t27⟩ := hdep ⟨17, .guard⟩ (by simp) rfl 27 rfl
        rw [show x27 = .bool true from t27] at h27
        clear t27
        obtain ⟨x33, h33, t33⟩ := hdep ⟨23, .data⟩ (by simp) rfl 33 rfl
        have t33 := Lib.hid t33
        have HK := Lib.hid hK
        have HS := Lib.hid hS
        clear hK ham hdep hS hd
        refine go_guard 17 27 true rfl rfl h27 ?_
        go_simp
        refine (hWDel.out w _ t33.out).mono ?_
        rintro e w' ⟨rfl, hb⟩
        exact HK.out _ w' hb (StB.bel HS.out hb) rfl
      refine steps_cons (not_ch (by kernel_rfl) fun _n act w K hS hd ham hdep hK => ?_) ?_
      · skip
        obtain ⟨x27, h27, t27⟩ := hdep ⟨17, .guard⟩ (by simp) rfl 27 rfl
        rw [show x27 = .bool true from t27] at h27
        clear t27
        obtain ⟨x30, h30, t30⟩ := hdep ⟨20, .data⟩ (by simp) rfl 30 rfl
        rw [show x30 = .agg #[.int .u64 a2, .int .u64 b2, .int .u64 c2, .int .u64 d2] from t30] at h30
        clear t30
        obtain ⟨x34, h34, t34⟩ := hdep ⟨24, .data⟩ (by simp) rfl 34 rfl
        rw [show x34 = .agg #[.int .u64 a2, .int .u64 b2, .int .u64 c2, .int .u64 d2] from t34] at h34
        clear t34
        have HK := Lib.hid hK
        have HS := Lib.hid hS
        clear hK ham hdep hS hd
        refine go_guard 17 27 true rfl rfl h27 ?_
        go_simp
        exact HK.out _ w (Below.refl _ _) HS.out rfl
      refine steps_cons (not_ch (by kernel_rfl) fun _n act w K hS hd ham hdep hK => ?_) ?_
      · skip
        obtain ⟨x27, h27, t27⟩ := hdep ⟨17, .data⟩ (by simp) rfl 27 rfl
        rw [show x27 = .bool true from t27] at h27
        clear t27
        obtain ⟨x35, h35, t35⟩ := hdep ⟨25, .data⟩ (by simp) rfl 35 rfl
        rw [show x35 = .bool true from t35] at h35
        clear t35
        have HK := Lib.hid hK
        have HS := Lib.hid hS
        clear hK ham hdep hS hd
        refine go_plain rfl ?_
        go_simp
        exact HK.out _ w (Below.refl _ _) HS.out rfl
      refine steps_cons (not_ch (by kernel_rfl) fun _n act w K hS hd ham hdep hK => ?_) ?_
      · skip
        obtain ⟨x36, h36, t36⟩ := hdep ⟨26, .data⟩ (by simp) rfl 36 rfl
        rw [show x36 = .bool true from t36] at h36
        clear t36
        have HK := Lib.hid hK
        have HS := Lib.hid hS
        clear hK ham hdep hS hd
        refine go_plain rfl ?_
        go_simp
        exact HK.out _ w (Below.refl _ _) HS.out rfl
      refine steps_cons (not_ch (by kernel_rfl) fun _n act w K hS hd ham hdep hK => ?_) ?_
      · skip
        have h5 := (ham 5 (by kernel_rfl)).trans e5
        obtain ⟨x37, h37, t37⟩ := hdep ⟨27, .guard⟩ (by simp) rfl 37 rfl
        rw [show x37 = .bool true from t37] at h37
        clear t37
        have HK := Lib.hid hK
        have HS := Lib.hid hS
        clear hK ham hdep hS hd
        refine go_guard 27 37 true rfl rfl h37 ?_
        obtain ⟨c0, c1, c2, c3⟩ := cellsK hA HS.out.1
        go_simp
        exact HK.out _ w (Below.refl _ _) HS.out rfl
      refine steps_cons (not_ch (by kernel_rfl) fun _n act w K hS hd ham hdep hK => ?_) ?_
      · skip
        obtain ⟨x37, h37, t37⟩ := hdep ⟨27, .chain⟩ (by simp) rfl 37 rfl
        rw [show x37 = .bool true from t37] at h37
        clear t37
        obtain ⟨x38, h38, t38⟩ := hdep ⟨28, .data⟩ (by simp) rfl 38 rfl
        rw [show x38 = .agg #[.int .u64 a, .int .u64 b, .int .u64 c, .int .u64 d] from t38] at h38
        clear t38
        have HK := Lib.hid hK
        have HS := Lib.hid hS
        clear hK ham hdep hS hd
        refine go_guard 27 37 true rfl rfl h37 ?_
        go_simp
        refine (hLen.out w).mono ?_
        rintro e w' ⟨rfl, hb⟩
        exact HK.out _ w' hb (StB.bel HS.out hb) rfl
      refine steps_cons (not_ch (by kernel_rfl) fun _n act w K hS hd ham hdep hK => ?_) ?_
      · skip
        have h6 := (ham 6 (by kernel_rfl)).trans e6
        obtain ⟨x37, h37, t37⟩ := hdep ⟨27, .guard⟩ (by simp) rfl 37 rfl
        rw [show x37 = .bool true from t37] at h37
        clear t37
        have HK := Lib.hid hK
        have HS := Lib.hid hS
        clear hK ham hdep hS hd
        refine go_guard 27 37 true rfl rfl h37 ?_
        go_simp
        exact HK.out _ w (Below.refl _ _) HS.out rfl
      refine steps_cons (not_ch (by kernel_rfl) fun _n act w K hS hd ham hdep hK => ?_) ?_
      · skip
        obtain ⟨x37, h37, t37⟩ := hdep ⟨27, .guard⟩ (by simp) rfl 37 rfl
        rw [show x37 = .bool true from t37] at h37
        clear t37
        obtain ⟨x40, h40, t40⟩ := hdep ⟨30, .data⟩ (by simp) rfl 40 rfl
        rw [show x40 = vl from t40] at h40
        clear t40
        have HK := Lib.hid hK
        have HS := Lib.hid hS
        clear hK ham hdep hS hd
        refine go_guard 27 37 true rfl rfl h37 ?_
        obtain ⟨av, cv, hvl⟩ := ints_form hI0
        rw [hvl] at h40
        clear hvl
        go_simp
        exact HK.out _ w (Below.refl _ _) HS.out rfl
      refine steps_cons (not_ch (by kernel_rfl) fun _n act w K hS hd ham hdep hK => ?_) ?_
      · skip
        obtain ⟨x37, h37, t37⟩ := hdep ⟨27, .guard⟩ (by simp) rfl 37 rfl
        rw [show x37 = .bool true from t37] at h37
        clear t37
        obtain ⟨x39, h39, t39⟩ := hdep ⟨29, .data⟩ (by simp) rfl 39 rfl
        rw [show x39 = .int .i64 ((lst [a, b, c, d]).length : Nat) from t39] at h39
        clear t39
        obtain ⟨x41, h41, t41⟩ := hdep ⟨31, .data⟩ (by simp) rfl 41 rfl
        rw [show x41 = .int .i64 ((lst [a, b, c, d]).length : Nat) from t41] at h41
        clear t41
        have HK := Lib.hid hK
        have HS := Lib.hid hS
        clear hK ham hdep hS hd
        refine go_guard 27 37 true rfl rfl h37 ?_
        go_simp
        exact HK.out _ w (Below.refl _ _) HS.out rfl
      refine steps_cons (not_ch (by kernel_rfl) fun _n act w K hS hd ham hdep hK => ?_) ?_
      · skip
        obtain ⟨x37, h37, t37⟩ := hdep ⟨27, .data⟩ (by simp) rfl 37 rfl
        rw [show x37 = .bool true from t37] at h37
        clear t37
        obtain ⟨x42, h42, t42⟩ := hdep ⟨32, .data⟩ (by simp) rfl 42 rfl
        rw [show x42 = .bool true from t42] at h42
        clear t42
        have HK := Lib.hid hK
        have HS := Lib.hid hS
        clear hK ham hdep hS hd
        refine go_plain rfl ?_
        go_simp
        exact HK.out _ w (Below.refl _ _) HS.out rfl
      refine steps_cons (not_ch (by kernel_rfl) fun _n act w K hS hd ham hdep hK => ?_) ?_
      · skip
        obtain ⟨x43, h43, t43⟩ := hdep ⟨33, .data⟩ (by simp) rfl 43 rfl
        rw [show x43 = .bool true from t43] at h43
        clear t43
        have HK := Lib.hid hK
        have HS := Lib.hid hS
        clear hK ham hdep hS hd
        refine go_plain rfl ?_
        go_simp
        exact HK.out _ w (Below.refl _ _) HS.out rfl
      refine steps_cons (not_ch (by kernel_rfl) fun _n act w K hS hd ham hdep hK => ?_) ?_
      · skip
        have h5 := (ham 5 (by kernel_rfl)).trans e5
        obtain ⟨x44, h44, t44⟩ := hdep ⟨34, .guard⟩ (by simp) rfl 44 rfl
        rw [show x44 = .bool true from t44] at h44
        clear t44
        have HK := Lib.hid hK
        have HS := Lib.hid hS
        clear hK ham hdep hS hd
        refine go_guard 34 44 true rfl rfl h44 ?_
        obtain ⟨c0, c1, c2, c3⟩ := cellsK hA HS.out.1
        go_simp
        exact HK.out _ w (Below.refl _ _) HS.out rfl
      refine steps_cons (not_ch (by kernel_rfl) fun _n act w K hS hd ham hdep hK => ?_) ?_
      · skip
        have h1 := (ham 1 (by kernel_rfl)).trans e1
        obtain ⟨x44, h44, t44⟩ := hdep ⟨34, .guard⟩ (by simp) rfl 44 rfl
        rw [show x44 = .bool true from t44] at h44
        clear t44
        have HK := Lib.hid hK
        have HS := Lib.hid hS
        clear hK ham hdep hS hd
        refine go_guard 34 44 true rfl rfl h44 ?_
        go_simp
        exact HK.out _ w (Below.refl _ _) HS.out rfl
      refine steps_cons (not_ch (by kernel_rfl) fun _n act w K hS hd ham hdep hK => ?_) ?_
      · skip
        obtain ⟨x44, h44, t44⟩ := hdep ⟨34, .chain⟩ (by simp) rfl 44 rfl
        rw [show x44 = .bool true from t44] at h44
        clear t44
        obtain ⟨x45, h45, t45⟩ := hdep ⟨35, .data⟩ (by simp) rfl 45 rfl
        rw [show x45 = .agg #[.int .u64 a, .int .u64 b, .int .u64 c, .int .u64 d] from t45] at h45
        clear t45
        obtain ⟨x46, h46, t46⟩ := hdep ⟨36, .data⟩ (by simp) rfl 46 rfl
        rw [show x46 = .int .i64 i from t46] at h46
        clear t46
        have HK := Lib.hid hK
        have HS := Lib.hid hS
        clear hK ham hdep hS hd
        refine go_guard 34 44 true rfl rfl h44 ?_
        go_simp
        refine (hNext.out w HS.out.2.1 HS.out.2.2).mono ?_
        rintro e w' ⟨rfl, hb⟩
        exact HK.out _ w' hb (StB.bel HS.out hb) rfl
      refine steps_cons (not_ch (by kernel_rfl) fun _n act w K hS hd ham hdep hK => ?_) ?_
      · skip
        have h6 := (ham 6 (by kernel_rfl)).trans e6
        obtain ⟨x44, h44, t44⟩ := hdep ⟨34, .guard⟩ (by simp) rfl 44 rfl
        rw [show x44 = .bool true from t44] at h44
        clear t44
        have HK := Lib.hid hK
        have HS := Lib.hid hS
        clear hK ham hdep hS hd
        refine go_guard 34 44 true rfl rfl h44 ?_
        go_simp
        exact HK.out _ w (Below.refl _ _) HS.out rfl
      refine steps_cons (not_ch (by kernel_rfl) fun _n act w K hS hd ham hdep hK => ?_) ?_
      · skip
        have h1 := (ham 1 (by kernel_rfl)).trans e1
        obtain ⟨x44, h44, t44⟩ := hdep ⟨34, .guard⟩ (by simp) rfl 44 rfl
        rw [show x44 = .bool true from t44] at h44
        clear t44
        have HK := Lib.hid hK
        have HS := Lib.hid hS
        clear hK ham hdep hS hd
        refine go_guard 34 44 true rfl rfl h44 ?_
        go_simp
        exact HK.out _ w (Below.refl _ _) HS.out rfl
      refine steps_cons (not_ch (by kernel_rfl) fun _n act w K hS hd ham hdep hK => ?_) ?_
      · skip
        obtain ⟨x44, h44, t44⟩ := hdep ⟨34, .guard⟩ (by simp) rfl 44 rfl
        rw [show x44 = .bool true from t44] at h44
        clear t44
        obtain ⟨x48, h48, t48⟩ := hdep ⟨38, .data⟩ (by simp) rfl 48 rfl
        rw [show x48 = vl from t48] at h48
        clear t48
        obtain ⟨x49, h49, t49⟩ := hdep ⟨39, .data⟩ (by simp) rfl 49 rfl
        rw [show x49 = .int .i64 i from t49] at h49
        clear t49
        have HK := Lib.hid hK
        have HS := Lib.hid hS
        clear hK ham hdep hS hd
        refine go_guard 34 44 true rfl rfl h44 ?_
        go_simp
        refine (hRNext.out w _ (ints_later hI0 HS.out.1)).mono ?_
        rintro e w' ⟨rfl, rfl⟩
        exact HK.out _ w (Below.refl _ _) HS.out rfl
      refine steps_cons (not_ch (by kernel_rfl) fun _n act w K hS hd ham hdep hK => ?_) ?_
      · skip
        obtain ⟨x44, h44, t44⟩ := hdep ⟨34, .guard⟩ (by simp) rfl 44 rfl
        rw [show x44 = .bool true from t44] at h44
        clear t44
        obtain ⟨x47, h47, t47⟩ := hdep ⟨37, .data⟩ (by simp) rfl 47 rfl
        rw [show x47 = .int .i64 nx from t47] at h47
        clear t47
        obtain ⟨x50, h50, t50⟩ := hdep ⟨40, .data⟩ (by simp) rfl 50 rfl
        rw [show x50 = .int .i64 nx from t50] at h50
        clear t50
        have HK := Lib.hid hK
        have HS := Lib.hid hS
        clear hK ham hdep hS hd
        refine go_guard 34 44 true rfl rfl h44 ?_
        go_simp
        exact HK.out _ w (Below.refl _ _) HS.out rfl
      refine steps_cons (not_ch (by kernel_rfl) fun _n act w K hS hd ham hdep hK => ?_) ?_
      · skip
        obtain ⟨x44, h44, t44⟩ := hdep ⟨34, .data⟩ (by simp) rfl 44 rfl
        rw [show x44 = .bool true from t44] at h44
        clear t44
        obtain ⟨x51, h51, t51⟩ := hdep ⟨41, .data⟩ (by simp) rfl 51 rfl
        rw [show x51 = .bool true from t51] at h51
        clear t51
        have HK := Lib.hid hK
        have HS := Lib.hid hS
        clear hK ham hdep hS hd
        refine go_plain rfl ?_
        go_simp
        exact HK.out _ w (Below.refl _ _) HS.out rfl
      refine steps_cons (not_ch (by kernel_rfl) fun _n act w K hS hd ham hdep hK => ?_) ?_
      · skip
        obtain ⟨x52, h52, t52⟩ := hdep ⟨42, .data⟩ (by simp) rfl 52 rfl
        rw [show x52 = .bool true from t52] at h52
        clear t52
        have HK := Lib.hid hK
        have HS := Lib.hid hS
        clear hK ham hdep hS hd
        refine go_plain rfl ?_
        go_simp
        exact HK.out _ w (Below.refl _ _) HS.out rfl
      refine steps_cons (not_ch (by kernel_rfl) fun _n act w K hS hd ham hdep hK => ?_) ?_
      · skip
        have h5 := (ham 5 (by kernel_rfl)).trans e5
        obtain ⟨x53, h53, t53⟩ := hdep ⟨43, .guard⟩ (by simp) rfl 53 rfl
        rw [show x53 = .bool true from t53] at h53
        clear t53
        have HK := Lib.hid hK
        have HS := Lib.hid hS
        clear hK ham hdep hS hd
        refine go_guard 43 53 true rfl rfl h53 ?_
        obtain ⟨c0, c1, c2, c3⟩ := cellsK hA HS.out.1
        go_simp
        exact HK.out _ w (Below.refl _ _) HS.out rfl
      refine steps_cons (not_ch (by kernel_rfl) fun _n act w K hS hd ham hdep hK => ?_) ?_
      · skip
        obtain ⟨x53, h53, t53⟩ := hdep ⟨43, .chain⟩ (by simp) rfl 53 rfl
        rw [show x53 = .bool true from t53] at h53
        clear t53
        obtain ⟨x54, h54, t54⟩ := hdep ⟨44, .data⟩ (by simp) rfl 54 rfl
        rw [show x54 = .agg #[.int .u64 a, .int .u64 b, .int .u64 c, .int .u64 d] from t54] at h54
        clear t54
        have HK := Lib.hid hK
        have HS := Lib.hid hS
        clear hK ham hdep hS hd
        refine go_guard 43 53 true rfl rfl h53 ?_
        go_simp
        refine (hAll.out w HS.out.2.1 HS.out.2.2).mono ?_
        rintro e w' ⟨v, rfl, hI, hb⟩
        exact HK.out _ w' hb (StB.bel HS.out hb) hI
      refine steps_cons (not_ch (by kernel_rfl) fun _n act w K hS hd ham hdep hK => ?_) ?_
      · skip
        have h6 := (ham 6 (by kernel_rfl)).trans e6
        obtain ⟨x53, h53, t53⟩ := hdep ⟨43, .guard⟩ (by simp) rfl 53 rfl
        rw [show x53 = .bool true from t53] at h53
        clear t53
        have HK := Lib.hid hK
        have HS := Lib.hid hS
        clear hK ham hdep hS hd
        refine go_guard 43 53 true rfl rfl h53 ?_
        go_simp
        exact HK.out _ w (Below.refl _ _) HS.out rfl
      refine steps_cons (not_ch (by kernel_rfl) fun _n act w K hS hd ham hdep hK => ?_) ?_
      · skip
        obtain ⟨x53, h53, t53⟩ := hdep ⟨43, .guard⟩ (by simp) rfl 53 rfl
        rw [show x53 = .bool true from t53] at h53
        clear t53
        obtain ⟨x55, h55, t55⟩ := hdep ⟨45, .data⟩ (by simp) rfl 55 rfl
        have t55 := Lib.hid t55
        obtain ⟨x56, h56, t56⟩ := hdep ⟨46, .data⟩ (by simp) rfl 56 rfl
        rw [show x56 = vl from t56] at h56
        clear t56
        have HK := Lib.hid hK
        have HS := Lib.hid hS
        clear hK ham hdep hS hd
        refine go_guard 43 53 true rfl rfl h53 ?_
        go_simp
        refine (same_any _ _ _ (lst [a, b, c, d]) w t55.out (ints_later hI0 HS.out.1) (Nat.le_trans (lst_le _) (by omega))).mono ?_
        rintro e w' ⟨rfl, hb⟩
        exact HK.out _ w' hb (StB.bel HS.out hb) rfl
      refine steps_cons (not_ch (by kernel_rfl) fun _n act w K hS hd ham hdep hK => ?_) ?_
      · skip
        obtain ⟨x53, h53, t53⟩ := hdep ⟨43, .data⟩ (by simp) rfl 53 rfl
        rw [show x53 = .bool true from t53] at h53
        clear t53
        obtain ⟨x57, h57, t57⟩ := hdep ⟨47, .data⟩ (by simp) rfl 57 rfl
        rw [show x57 = .bool true from t57] at h57
        clear t57
        have HK := Lib.hid hK
        have HS := Lib.hid hS
        clear hK ham hdep hS hd
        refine go_plain rfl ?_
        go_simp
        exact HK.out _ w (Below.refl _ _) HS.out rfl
      refine steps_cons (not_ch (by kernel_rfl) fun _n act w K hS hd ham hdep hK => ?_) ?_
      · skip
        obtain ⟨x58, h58, t58⟩ := hdep ⟨48, .data⟩ (by simp) rfl 58 rfl
        rw [show x58 = .bool true from t58] at h58
        clear t58
        have HK := Lib.hid hK
        have HS := Lib.hid hS
        clear hK ham hdep hS hd
        refine go_plain rfl ?_
        go_simp
        exact HK.out _ w (Below.refl _ _) HS.out rfl
      refine steps_cons (not_ch (by kernel_rfl) fun _n act w K hS hd ham hdep hK => ?_) ?_
      · skip
        obtain ⟨x59, h59, t59⟩ := hdep ⟨49, .chain⟩ (by simp) rfl 59 rfl
        rw [show x59 = .bool true from t59] at h59
        clear t59
        have HK := Lib.hid hK
        have HS := Lib.hid hS
        clear hK ham hdep hS hd
        refine go_guard 49 59 true rfl rfl h59 ?_
        go_simp
        refine (works_any w HS.out.2.1 HS.out.2.2).mono ?_
        rintro e w' ⟨rfl, hb⟩
        exact HK.out _ w' hb (StB.bel HS.out hb) rfl
      refine steps_cons (not_ch (by kernel_rfl) fun _n act w K hS hd ham hdep hK => ?_) ?_
      · skip
        obtain ⟨x59, h59, t59⟩ := hdep ⟨49, .data⟩ (by simp) rfl 59 rfl
        rw [show x59 = .bool true from t59] at h59
        clear t59
        obtain ⟨x60, h60, t60⟩ := hdep ⟨50, .data⟩ (by simp) rfl 60 rfl
        rw [show x60 = .bool true from t60] at h60
        clear t60
        have HK := Lib.hid hK
        have HS := Lib.hid hS
        clear hK ham hdep hS hd
        refine go_plain rfl ?_
        go_simp
        exact HK.out _ w (Below.refl _ _) HS.out rfl
      refine steps_cons (not_ch (by kernel_rfl) fun _n act w K hS hd ham hdep hK => ?_) ?_
      · skip
        obtain ⟨x61, h61, t61⟩ := hdep ⟨51, .data⟩ (by simp) rfl 61 rfl
        rw [show x61 = .bool true from t61] at h61
        clear t61
        have HK := Lib.hid hK
        have HS := Lib.hid hS
        clear hK ham hdep hS hd
        refine go_plain rfl ?_
        go_simp
        exact HK.out _ w (Below.refl _ _) HS.out rfl
      exact steps_done 53 (by omega)
    · intro vs a w' hF hty hS
      have hr := hF.mine 52 4 (by kernel_rfl) (by kernel_rfl)
      rw [show vs 52 = .bool true from hty 52 (by decide)] at hr
      have hd := hF.defers.trans d0
      have HX := Lib.hid (fb_call HBL.out hS.1)
      clear hF hty hS hS0 hA hI0
      obtain ⟨tm, df⟩ := a
      obtain rfl : df = [] := hd
      go_wp2
      exact bodyPost_ret (by simp [results, Tryd.results3, go_sem, hr]) rfl ⟨rfl, HX.out⟩
end Go.Proofs.YtikoabnonmkhkaaDoor
