/- The walk of the law's works. -/
import Derived.Test.YtikoabnonmkhkaaDoorBitsP
import Derived.Test.YtikoabnonmkhkaaDoorReg
namespace Go.Proofs.YtikoabnonmkhkaaDoor
open Go.RowKit

/-- What is said of a slot. -/
inductive TyB
  | is (v : Value)
  | ints (L : List Nat)
  | rows (p : List Nat → Prop)
  | arr (base : Nat) (t : TypeId) (vs : List Value)
  | any
def TyB.ok : TyB → Value → World → Prop
  | .is x, v, _ => v = x
  | .ints L, v, w => Ints w w.heap.size v (zl L)
  | .rows p, v, w => ∃ L, p L ∧ Ints w w.heap.size v (zl L)
  | .arr base t vs, v, w => ∃ B, v = .pointer (some ⟨B, 0, none⟩) ∧ base ≤ B ∧ Arr w B t vs
  | .any, _, _ => True
theorem TyB.mono (t : TyB) (v : Value) (w w' : World) (h : t.ok v w) (hb : Below w.heap.size w w') : t.ok v w' := by
  cases t with
  | is x => exact h
  | ints L => exact Ints.mono (Ints.below h hb (Nat.le_refl _)) hb.size
  | rows p => exact h.imp fun L h => ⟨h.1, Ints.mono (Ints.below h.2 hb (Nat.le_refl _)) hb.size⟩
  | arr base t vs => exact h.imp fun B h => ⟨h.1, h.2.1, h.2.2.below hb h.2.2.lt⟩
  | any => trivial
/-- What stays. -/
def StB (w0 w : World) : Prop := Below w0.heap.size w0 w ∧ TabAt w ∧ 0 < w.heap.size
theorem StB.bel {w0 w w' : World} (h : StB w0 w) (hb : Below w.heap.size w w') : StB w0 w' := ⟨fb_call h.1 hb, h.2.1.below h.2.2 hb, Nat.lt_of_lt_of_le h.2.2 hb.size⟩
theorem StB.first {w0 w : World} (h : StB w0 w0) (e : w = w0 ∨ w = { w0 with drawn := w0.drawn + 1 }) : StB w0 w := by
  rcases e with rfl | rfl
  · exact h
  · exact h.bel ⟨rfl, rfl, rfl, Nat.le_refl _, fun _ _ => rfl⟩
theorem cellsK {w0 w : World} {B : Nat} {t : TypeId} {v0 v1 v2 v3 : Value} (hA : Arr w0 B t [v0, v1, v2, v3]) (hb : Below w0.heap.size w0 w) :
    w.cell? ⟨B, 0, none⟩ = some v0 ∧ w.cell? ⟨B, 1, none⟩ = some v1 ∧ w.cell? ⟨B, 2, none⟩ = some v2 ∧ w.cell? ⟨B, 3, none⟩ = some v3 :=
  have h := hA.below hb hA.lt
  ⟨h.cell 0, h.cell 1, h.cell 2, h.cell 3⟩
theorem ints_eq {w : World} {v : Value} {L M : List Nat} (h : Ints w w.heap.size v (zl L)) (e : L = M) : Ints w w.heap.size v (zl M) := e ▸ h
theorem ints_lit (W : World) (vs : Array Value) (L : List Nat) (h : vs = ((zl L).map (Value.int .i64)).toArray) (n : Nat) (hn : n = L.length) :
    Ints (W.alloc (.cells vs 3)) (W.alloc (.cells vs 3)).heap.size (.slice (some ⟨W.heap.size, 0, none⟩) n n) (zl L) := by
  subst h hn
  have hA := Arr.new W 3 ((zl L).map (Value.int .i64))
  have hI := Ints.arr hA (Nat.le_refl _)
  rw [zl_len] at hI
  exact hI
@[go_sem] theorem eq_set (a b c d x y z u : Int) (w : World) : (Op.equalIn 10000 24 (.agg #[.int .u64 a, .int .u64 b, .int .u64 c, .int .u64 d]) (.agg #[.int .u64 x, .int .u64 y, .int .u64 z, .int .u64 u])).run Tryd.prog w = .ok (a == x && (b == y && (c == z && d == u))) w := by
  have u3 := Tryd.underlying22
  have a3 := Tryd.isAgg22
  have z3 := Tryd.sizeOf22
  rw [show (10000 : Nat) = 9999 + 1 from rfl, Op.equalIn]
  simp only [Sem.run_bind, run_underlying Tryd.underlying24, Result.andThen_ok]
  simp only [Std.Legacy.Range.forIn_eq_forIn_range', Std.Legacy.Range.size, Nat.sub_zero, Nat.add_sub_cancel, Nat.div_one, List.range'_succ, List.range'_zero, List.forIn_cons, List.forIn_nil]
  go_simp
  by_cases h1 : a = x <;> by_cases h2 : b = y <;> by_cases h3 : c = z <;> by_cases h4 : d = u <;> simp [h1, h2, h3, h4]
def DW : List (Option Nat) := [some 4, some 5, some 6, some 7, some 8, some 9, some 10, some 11, some 12, some 13, some 14, some 15, some 16, some 17, some 18, some 19, some 20, some 21, some 22, some 23, some 24, some 25, some 26, some 27, some 28, some 29, some 30, some 31, some 32, some 33, some 34, some 35, some 36, some 37, some 38, some 39, some 40, some 41, some 42, some 43, some 44, some 45, some 46, some 47, some 48, some 49, some 50, some 51, some 52, some 53, some 54, some 55, some 56, some 57, some 58, some 59, some 60, some 61, some 62, some 63, some 64, some 65, some 66, some 67, some 68, some 69, some 70, some 71, some 72, some 73, some 74, some 75, some 76, some 77, some 78, some 79, some 80, some 81, some 82, some 83, some 84, some 85, some 86, some 87, some 88, some 89, some 90, some 91, some 92, some 93, some 94, some 95, some 96, some 97, some 98, some 99, some 100, some 101, some 102, some 0]
def TLW (B : Nat) : List TyB := [
  .is (.agg #[.int .u64 8, .int .u64 1, .int .u64 0, .int .u64 9223372036854775808]),
  .is (.int .i64 3),
  .is (.bool true),
  .is (.bool true),
  .is (.agg #[.int .u64 8, .int .u64 1, .int .u64 0, .int .u64 9223372036854775808]),
  .is (.bool true),
  .is (.bool true),
  .is (.bool true),
  .is (.agg #[.int .u64 8, .int .u64 1, .int .u64 0, .int .u64 9223372036854775808]),
  .is (.bool false),
  .is (.bool true),
  .is (.bool true),
  .is (.bool true),
  .is (.agg #[.int .u64 8, .int .u64 1, .int .u64 0, .int .u64 9223372036854775808]),
  .is (.bool false),
  .is (.bool true),
  .is (.bool true),
  .is (.bool true),
  .is (.agg #[.int .u64 8, .int .u64 1, .int .u64 0, .int .u64 9223372036854775808]),
  .is (.bool false),
  .is (.bool true),
  .is (.bool true),
  .is (.bool true),
  .is (.agg #[.int .u64 8, .int .u64 1, .int .u64 0, .int .u64 9223372036854775808]),
  .is (.int .i64 3),
  .is (.bool true),
  .is (.bool true),
  .is (.bool true),
  .is (.agg #[.int .u64 8, .int .u64 1, .int .u64 0, .int .u64 9223372036854775808]),
  .is (.int .i64 64),
  .is (.bool true),
  .is (.bool true),
  .is (.bool true),
  .is (.agg #[.int .u64 8, .int .u64 1, .int .u64 0, .int .u64 9223372036854775808]),
  .is (.int .i64 255),
  .is (.bool true),
  .is (.bool true),
  .is (.bool true),
  .is (.agg #[.int .u64 8, .int .u64 1, .int .u64 0, .int .u64 9223372036854775808]),
  .is (.int .i64 (-1)),
  .is (.bool true),
  .is (.bool true),
  .is (.bool true),
  .is (.agg #[.int .u64 8, .int .u64 1, .int .u64 0, .int .u64 9223372036854775808]),
  .is (.int .i64 3),
  .is (.bool true),
  .is (.bool true),
  .is (.bool true),
  .is (.agg #[.int .u64 8, .int .u64 1, .int .u64 0, .int .u64 9223372036854775808]),
  .is (.agg #[.int .u64 8, .int .u64 1, .int .u64 0, .int .u64 9223372036854775808]),
  .is (.agg #[.int .u64 8, .int .u64 1, .int .u64 0, .int .u64 9223372036854775808]),
  .is (.bool true),
  .is (.bool true),
  .is (.bool true),
  .is (.agg #[.int .u64 8, .int .u64 1, .int .u64 0, .int .u64 9223372036854775808]),
  .is (.agg #[.int .u64 8, .int .u64 0, .int .u64 0, .int .u64 9223372036854775808]),
  .ints [3, 255],
  .ints [3, 255],
  .is (.bool true),
  .is (.bool true),
  .is (.bool true),
  .is (.agg #[.int .u64 8, .int .u64 1, .int .u64 0, .int .u64 9223372036854775808]),
  .is (.agg #[.int .u64 8, .int .u64 1, .int .u64 0, .int .u64 9223372036854775808]),
  .is (.agg #[.int .u64 8, .int .u64 1, .int .u64 0, .int .u64 9223372036854775808]),
  .is (.bool true),
  .is (.bool true),
  .is (.bool true),
  .is (.agg #[.int .u64 8, .int .u64 1, .int .u64 0, .int .u64 9223372036854775808]),
  .ints [64],
  .is (.agg #[.int .u64 0, .int .u64 1, .int .u64 0, .int .u64 0]),
  .is (.agg #[.int .u64 0, .int .u64 1, .int .u64 0, .int .u64 0]),
  .ints [64],
  .is (.agg #[.int .u64 0, .int .u64 1, .int .u64 0, .int .u64 0]),
  .is (.bool true),
  .is (.bool true),
  .is (.bool true),
  .is (.agg #[.int .u64 8, .int .u64 1, .int .u64 0, .int .u64 9223372036854775808]),
  .ints [64],
  .is (.agg #[.int .u64 0, .int .u64 1, .int .u64 0, .int .u64 0]),
  .is (.agg #[.int .u64 8, .int .u64 0, .int .u64 0, .int .u64 9223372036854775808]),
  .ints [3, 255],
  .is (.agg #[.int .u64 8, .int .u64 0, .int .u64 0, .int .u64 9223372036854775808]),
  .is (.bool true),
  .is (.bool true),
  .is (.bool true),
  .ints [1],
  .is (.agg #[.int .u64 2, .int .u64 0, .int .u64 0, .int .u64 0]),
  .ints [2],
  .is (.agg #[.int .u64 4, .int .u64 0, .int .u64 0, .int .u64 0]),
  .is (.agg #[.int .u64 6, .int .u64 0, .int .u64 0, .int .u64 0]),
  .ints [1, 2],
  .ints [1, 2],
  .is (.bool true),
  .is (.bool true),
  .is (.bool true),
  .is (.pointer (some ⟨B, 0, none⟩)),
  .is (.int .u64 8),
  .is (.bool true),
  .is (.bool true),
  .is (.bool true)]

set_option maxRecDepth 100000 in
set_option maxHeartbeats 8000000 in
theorem works_any (w : World) (hT : TabAt w) (h0 : 0 < w.heap.size) : Calls Tryd.prog 21 #[] w fun e w' => e = .returned (.bool true) ∧ Below w.heap.size w w' := by
  go_enter Tryd.func21, Tryd.ntmps21
  go_wp2_with (go_at_call 28; refine (of_any _ [3, 64, 255] _ (ints_lit w _ [3, 64, 255] rfl 3 rfl) (by decide)).mono ?_; rintro e w1 ⟨he, hb1⟩; obtain rfl : e = .returned (.agg #[.int .u64 8, .int .u64 1, .int .u64 0, .int .u64 9223372036854775808]) := he.trans (by kernel_rfl))
  refine wp_gen fun a0 w0 ha0 hw0 => ?_
  obtain ⟨B, hB⟩ : ∃ B, w1.heap.size = B := ⟨_, rfl⟩
  have hA : Arr w0 B 24 [.int .u64 8, .int .u64 1, .int .u64 0, .int .u64 9223372036854775808] := by rw [hw0, ← hB]; exact Arr.new w1 _ _
  have hbl : Below w.heap.size w w0 := by rw [hw0]; exact fb_alloc (fb_call (fb_alloc (Below.refl _ _) _) hb1) _
  have hS0 : StB w0 w0 := ⟨Below.refl _ _, hT.below h0 hbl, Nat.lt_of_lt_of_le h0 hbl.size⟩
  have z : a0.tmps.size = 103 := by rw [ha0]; rfl
  have d0 : a0.defers = [] := by rw [ha0]
  have e1 : a0.tmps[1]? = some (.pointer (some ⟨B, 0, none⟩)) := by rw [ha0, ← hB]; rfl
  clear hw0 ha0 hT h0 hB hb1
  have HBL := Lib.hid hbl
  clear hbl
  refine wp_region_typed 100 DW [] [] (T := fun i v w => ((TLW B).getD i .any).ok v w) (Rel := fun w w' => Below w.heap.size w w') (St := fun _ w => StB w0 w) (by kernel_rfl) (by kernel_rfl) (by kernel_rfl) (by kernel_rfl) (by rw [z]; kernel_rfl) (by kernel_rfl) (by kernel_rfl) (fun i v w w' h hr => TyB.mono _ _ _ _ h hr) ?_ (steps_of ?_) ?_
  · exact fun _ h => hS0.first h
  · clear hS0
    refine steps_cons (not_ch (by kernel_rfl) fun _n act w K hS hd ham hdep hK => ?_) ?_
    · skip
      have h1 := (ham 1 (by kernel_rfl)).trans e1
      have HK := Lib.hid (fun v_ w_ (h1_ : _) (h2_ : _) (h3_ : _) => hK v_ w_ h1_ h2_ h3_ (fun h_ => absurd h_ (by decide)))
      have HS := Lib.hid hS
      clear hK ham hdep hS hd
      refine go_plain rfl ?_
      obtain ⟨c0, c1, c2, c3⟩ := cellsK hA HS.out.1
      go_simp
      exact HK.out _ w (Below.refl _ _) HS.out rfl
    refine steps_cons (not_ch (by kernel_rfl) fun _n act w K hS hd ham hdep hK => ?_) ?_
    · skip
      obtain ⟨x4, h4, t4⟩ := hdep ⟨0, .data⟩ (by simp) rfl 4 rfl
      rw [show x4 = .agg #[.int .u64 8, .int .u64 1, .int .u64 0, .int .u64 9223372036854775808] from t4] at h4
      clear t4
      have HK := Lib.hid (fun v_ w_ (h1_ : _) (h2_ : _) (h3_ : _) => hK v_ w_ h1_ h2_ h3_ (fun h_ => absurd h_ (by decide)))
      have HS := Lib.hid hS
      clear hK ham hdep hS hd
      refine go_plain rfl ?_
      go_simp
      refine (k_len w).mono ?_
      rintro e w' ⟨rfl, hb⟩
      exact HK.out _ w' hb (StB.bel HS.out hb) rfl
    refine steps_cons (not_ch (by kernel_rfl) fun _n act w K hS hd ham hdep hK => ?_) ?_
    · skip
      obtain ⟨x5, h5, t5⟩ := hdep ⟨1, .data⟩ (by simp) rfl 5 rfl
      rw [show x5 = .int .i64 3 from t5] at h5
      clear t5
      have HK := Lib.hid (fun v_ w_ (h1_ : _) (h2_ : _) (h3_ : _) => hK v_ w_ h1_ h2_ h3_ (fun h_ => absurd h_ (by decide)))
      have HS := Lib.hid hS
      clear hK ham hdep hS hd
      refine go_plain rfl ?_
      go_simp
      exact HK.out _ w (Below.refl _ _) HS.out rfl
    refine steps_cons (not_ch (by kernel_rfl) fun _n act w K hS hd ham hdep hK => ?_) ?_
    · skip
      obtain ⟨x6, h6, t6⟩ := hdep ⟨2, .data⟩ (by simp) rfl 6 rfl
      rw [show x6 = .bool true from t6] at h6
      clear t6
      have HK := Lib.hid (fun v_ w_ (h1_ : _) (h2_ : _) (h3_ : _) => hK v_ w_ h1_ h2_ h3_ (fun h_ => absurd h_ (by decide)))
      have HS := Lib.hid hS
      clear hK ham hdep hS hd
      refine go_plain rfl ?_
      go_simp
      exact HK.out _ w (Below.refl _ _) HS.out rfl
    refine steps_cons (not_ch (by kernel_rfl) fun _n act w K hS hd ham hdep hK => ?_) ?_
    · skip
      have h1 := (ham 1 (by kernel_rfl)).trans e1
      obtain ⟨x7, h7, t7⟩ := hdep ⟨3, .guard⟩ (by simp) rfl 7 rfl
      rw [show x7 = .bool true from t7] at h7
      clear t7
      have HK := Lib.hid (fun v_ w_ (h1_ : _) (h2_ : _) (h3_ : _) => hK v_ w_ h1_ h2_ h3_ (fun h_ => absurd h_ (by decide)))
      have HS := Lib.hid hS
      clear hK ham hdep hS hd
      refine go_guard 3 7 true rfl rfl h7 ?_
      obtain ⟨c0, c1, c2, c3⟩ := cellsK hA HS.out.1
      go_simp
      exact HK.out _ w (Below.refl _ _) HS.out rfl
    refine steps_cons (not_ch (by kernel_rfl) fun _n act w K hS hd ham hdep hK => ?_) ?_
    · skip
      obtain ⟨x7, h7, t7⟩ := hdep ⟨3, .chain⟩ (by simp) rfl 7 rfl
      rw [show x7 = .bool true from t7] at h7
      clear t7
      obtain ⟨x8, h8, t8⟩ := hdep ⟨4, .data⟩ (by simp) rfl 8 rfl
      rw [show x8 = .agg #[.int .u64 8, .int .u64 1, .int .u64 0, .int .u64 9223372036854775808] from t8] at h8
      clear t8
      have HK := Lib.hid (fun v_ w_ (h1_ : _) (h2_ : _) (h3_ : _) => hK v_ w_ h1_ h2_ h3_ (fun h_ => absurd h_ (by decide)))
      have HS := Lib.hid hS
      clear hK ham hdep hS hd
      refine go_guard 3 7 true rfl rfl h7 ?_
      go_simp
      refine (k_has64 w).mono ?_
      rintro e w' ⟨rfl, hb⟩
      exact HK.out _ w' hb (StB.bel HS.out hb) rfl
    refine steps_cons (not_ch (by kernel_rfl) fun _n act w K hS hd ham hdep hK => ?_) ?_
    · skip
      obtain ⟨x7, h7, t7⟩ := hdep ⟨3, .data⟩ (by simp) rfl 7 rfl
      rw [show x7 = .bool true from t7] at h7
      clear t7
      obtain ⟨x9, h9, t9⟩ := hdep ⟨5, .data⟩ (by simp) rfl 9 rfl
      rw [show x9 = .bool true from t9] at h9
      clear t9
      have HK := Lib.hid (fun v_ w_ (h1_ : _) (h2_ : _) (h3_ : _) => hK v_ w_ h1_ h2_ h3_ (fun h_ => absurd h_ (by decide)))
      have HS := Lib.hid hS
      clear hK ham hdep hS hd
      refine go_plain rfl ?_
      go_simp
      exact HK.out _ w (Below.refl _ _) HS.out rfl
    refine steps_cons (not_ch (by kernel_rfl) fun _n act w K hS hd ham hdep hK => ?_) ?_
    · skip
      obtain ⟨x10, h10, t10⟩ := hdep ⟨6, .data⟩ (by simp) rfl 10 rfl
      rw [show x10 = .bool true from t10] at h10
      clear t10
      have HK := Lib.hid (fun v_ w_ (h1_ : _) (h2_ : _) (h3_ : _) => hK v_ w_ h1_ h2_ h3_ (fun h_ => absurd h_ (by decide)))
      have HS := Lib.hid hS
      clear hK ham hdep hS hd
      refine go_plain rfl ?_
      go_simp
      exact HK.out _ w (Below.refl _ _) HS.out rfl
    refine steps_cons (not_ch (by kernel_rfl) fun _n act w K hS hd ham hdep hK => ?_) ?_
    · skip
      have h1 := (ham 1 (by kernel_rfl)).trans e1
      obtain ⟨x11, h11, t11⟩ := hdep ⟨7, .guard⟩ (by simp) rfl 11 rfl
      rw [show x11 = .bool true from t11] at h11
      clear t11
      have HK := Lib.hid (fun v_ w_ (h1_ : _) (h2_ : _) (h3_ : _) => hK v_ w_ h1_ h2_ h3_ (fun h_ => absurd h_ (by decide)))
      have HS := Lib.hid hS
      clear hK ham hdep hS hd
      refine go_guard 7 11 true rfl rfl h11 ?_
      obtain ⟨c0, c1, c2, c3⟩ := cellsK hA HS.out.1
      go_simp
      exact HK.out _ w (Below.refl _ _) HS.out rfl
    refine steps_cons (not_ch (by kernel_rfl) fun _n act w K hS hd ham hdep hK => ?_) ?_
    · skip
      obtain ⟨x11, h11, t11⟩ := hdep ⟨7, .chain⟩ (by simp) rfl 11 rfl
      rw [show x11 = .bool true from t11] at h11
      clear t11
      obtain ⟨x12, h12, t12⟩ := hdep ⟨8, .data⟩ (by simp) rfl 12 rfl
      rw [show x12 = .agg #[.int .u64 8, .int .u64 1, .int .u64 0, .int .u64 9223372036854775808] from t12] at h12
      clear t12
      have HK := Lib.hid (fun v_ w_ (h1_ : _) (h2_ : _) (h3_ : _) => hK v_ w_ h1_ h2_ h3_ (fun h_ => absurd h_ (by decide)))
      have HS := Lib.hid hS
      clear hK ham hdep hS hd
      refine go_guard 7 11 true rfl rfl h11 ?_
      go_simp
      refine (k_has65 w).mono ?_
      rintro e w' ⟨rfl, hb⟩
      exact HK.out _ w' hb (StB.bel HS.out hb) rfl
    refine steps_cons (not_ch (by kernel_rfl) fun _n act w K hS hd ham hdep hK => ?_) ?_
    · skip
      obtain ⟨x11, h11, t11⟩ := hdep ⟨7, .guard⟩ (by simp) rfl 11 rfl
      rw [show x11 = .bool true from t11] at h11
      clear t11
      obtain ⟨x13, h13, t13⟩ := hdep ⟨9, .data⟩ (by simp) rfl 13 rfl
      rw [show x13 = .bool false from t13] at h13
      clear t13
      have HK := Lib.hid (fun v_ w_ (h1_ : _) (h2_ : _) (h3_ : _) => hK v_ w_ h1_ h2_ h3_ (fun h_ => absurd h_ (by decide)))
      have HS := Lib.hid hS
      clear hK ham hdep hS hd
      refine go_guard 7 11 true rfl rfl h11 ?_
      go_simp
      exact HK.out _ w (Below.refl _ _) HS.out rfl
    refine steps_cons (not_ch (by kernel_rfl) fun _n act w K hS hd ham hdep hK => ?_) ?_
    · skip
      obtain ⟨x11, h11, t11⟩ := hdep ⟨7, .data⟩ (by simp) rfl 11 rfl
      rw [show x11 = .bool true from t11] at h11
      clear t11
      obtain ⟨x14, h14, t14⟩ := hdep ⟨10, .data⟩ (by simp) rfl 14 rfl
      rw [show x14 = .bool true from t14] at h14
      clear t14
      have HK := Lib.hid (fun v_ w_ (h1_ : _) (h2_ : _) (h3_ : _) => hK v_ w_ h1_ h2_ h3_ (fun h_ => absurd h_ (by decide)))
      have HS := Lib.hid hS
      clear hK ham hdep hS hd
      refine go_plain rfl ?_
      go_simp
      exact HK.out _ w (Below.refl _ _) HS.out rfl
    refine steps_cons (not_ch (by kernel_rfl) fun _n act w K hS hd ham hdep hK => ?_) ?_
    · skip
      obtain ⟨x15, h15, t15⟩ := hdep ⟨11, .data⟩ (by simp) rfl 15 rfl
      rw [show x15 = .bool true from t15] at h15
      clear t15
      have HK := Lib.hid (fun v_ w_ (h1_ : _) (h2_ : _) (h3_ : _) => hK v_ w_ h1_ h2_ h3_ (fun h_ => absurd h_ (by decide)))
      have HS := Lib.hid hS
      clear hK ham hdep hS hd
      refine go_plain rfl ?_
      go_simp
      exact HK.out _ w (Below.refl _ _) HS.out rfl
    refine steps_cons (not_ch (by kernel_rfl) fun _n act w K hS hd ham hdep hK => ?_) ?_
    · skip
      have h1 := (ham 1 (by kernel_rfl)).trans e1
      obtain ⟨x16, h16, t16⟩ := hdep ⟨12, .guard⟩ (by simp) rfl 16 rfl
      rw [show x16 = .bool true from t16] at h16
      clear t16
      have HK := Lib.hid (fun v_ w_ (h1_ : _) (h2_ : _) (h3_ : _) => hK v_ w_ h1_ h2_ h3_ (fun h_ => absurd h_ (by decide)))
      have HS := Lib.hid hS
      clear hK ham hdep hS hd
      refine go_guard 12 16 true rfl rfl h16 ?_
      obtain ⟨c0, c1, c2, c3⟩ := cellsK hA HS.out.1
      go_simp
      exact HK.out _ w (Below.refl _ _) HS.out rfl
    refine steps_cons (not_ch (by kernel_rfl) fun _n act w K hS hd ham hdep hK => ?_) ?_
    · skip
      obtain ⟨x16, h16, t16⟩ := hdep ⟨12, .chain⟩ (by simp) rfl 16 rfl
      rw [show x16 = .bool true from t16] at h16
      clear t16
      obtain ⟨x17, h17, t17⟩ := hdep ⟨13, .data⟩ (by simp) rfl 17 rfl
      rw [show x17 = .agg #[.int .u64 8, .int .u64 1, .int .u64 0, .int .u64 9223372036854775808] from t17] at h17
      clear t17
      have HK := Lib.hid (fun v_ w_ (h1_ : _) (h2_ : _) (h3_ : _) => hK v_ w_ h1_ h2_ h3_ (fun h_ => absurd h_ (by decide)))
      have HS := Lib.hid hS
      clear hK ham hdep hS hd
      refine go_guard 12 16 true rfl rfl h16 ?_
      go_simp
      refine (k_hasm1 w).mono ?_
      rintro e w' ⟨rfl, hb⟩
      exact HK.out _ w' hb (StB.bel HS.out hb) rfl
    refine steps_cons (not_ch (by kernel_rfl) fun _n act w K hS hd ham hdep hK => ?_) ?_
    · skip
      obtain ⟨x16, h16, t16⟩ := hdep ⟨12, .guard⟩ (by simp) rfl 16 rfl
      rw [show x16 = .bool true from t16] at h16
      clear t16
      obtain ⟨x18, h18, t18⟩ := hdep ⟨14, .data⟩ (by simp) rfl 18 rfl
      rw [show x18 = .bool false from t18] at h18
      clear t18
      have HK := Lib.hid (fun v_ w_ (h1_ : _) (h2_ : _) (h3_ : _) => hK v_ w_ h1_ h2_ h3_ (fun h_ => absurd h_ (by decide)))
      have HS := Lib.hid hS
      clear hK ham hdep hS hd
      refine go_guard 12 16 true rfl rfl h16 ?_
      go_simp
      exact HK.out _ w (Below.refl _ _) HS.out rfl
    refine steps_cons (not_ch (by kernel_rfl) fun _n act w K hS hd ham hdep hK => ?_) ?_
    · skip
      obtain ⟨x16, h16, t16⟩ := hdep ⟨12, .data⟩ (by simp) rfl 16 rfl
      rw [show x16 = .bool true from t16] at h16
      clear t16
      obtain ⟨x19, h19, t19⟩ := hdep ⟨15, .data⟩ (by simp) rfl 19 rfl
      rw [show x19 = .bool true from t19] at h19
      clear t19
      have HK := Lib.hid (fun v_ w_ (h1_ : _) (h2_ : _) (h3_ : _) => hK v_ w_ h1_ h2_ h3_ (fun h_ => absurd h_ (by decide)))
      have HS := Lib.hid hS
      clear hK ham hdep hS hd
      refine go_plain rfl ?_
      go_simp
      exact HK.out _ w (Below.refl _ _) HS.out rfl
    refine steps_cons (not_ch (by kernel_rfl) fun _n act w K hS hd ham hdep hK => ?_) ?_
    · skip
      obtain ⟨x20, h20, t20⟩ := hdep ⟨16, .data⟩ (by simp) rfl 20 rfl
      rw [show x20 = .bool true from t20] at h20
      clear t20
      have HK := Lib.hid (fun v_ w_ (h1_ : _) (h2_ : _) (h3_ : _) => hK v_ w_ h1_ h2_ h3_ (fun h_ => absurd h_ (by decide)))
      have HS := Lib.hid hS
      clear hK ham hdep hS hd
      refine go_plain rfl ?_
      go_simp
      exact HK.out _ w (Below.refl _ _) HS.out rfl
    refine steps_cons (not_ch (by kernel_rfl) fun _n act w K hS hd ham hdep hK => ?_) ?_
    · skip
      have h1 := (ham 1 (by kernel_rfl)).trans e1
      obtain ⟨x21, h21, t21⟩ := hdep ⟨17, .guard⟩ (by simp) rfl 21 rfl
      rw [show x21 = .bool true from t21] at h21
      clear t21
      have HK := Lib.hid (fun v_ w_ (h1_ : _) (h2_ : _) (h3_ : _) => hK v_ w_ h1_ h2_ h3_ (fun h_ => absurd h_ (by decide)))
      have HS := Lib.hid hS
      clear hK ham hdep hS hd
      refine go_guard 17 21 true rfl rfl h21 ?_
      obtain ⟨c0, c1, c2, c3⟩ := cellsK hA HS.out.1
      go_simp
      exact HK.out _ w (Below.refl _ _) HS.out rfl
    refine steps_cons (not_ch (by kernel_rfl) fun _n act w K hS hd ham hdep hK => ?_) ?_
    · skip
      obtain ⟨x21, h21, t21⟩ := hdep ⟨17, .chain⟩ (by simp) rfl 21 rfl
      rw [show x21 = .bool true from t21] at h21
      clear t21
      obtain ⟨x22, h22, t22⟩ := hdep ⟨18, .data⟩ (by simp) rfl 22 rfl
      rw [show x22 = .agg #[.int .u64 8, .int .u64 1, .int .u64 0, .int .u64 9223372036854775808] from t22] at h22
      clear t22
      have HK := Lib.hid (fun v_ w_ (h1_ : _) (h2_ : _) (h3_ : _) => hK v_ w_ h1_ h2_ h3_ (fun h_ => absurd h_ (by decide)))
      have HS := Lib.hid hS
      clear hK ham hdep hS hd
      refine go_guard 17 21 true rfl rfl h21 ?_
      go_simp
      refine (k_has320 w).mono ?_
      rintro e w' ⟨rfl, hb⟩
      exact HK.out _ w' hb (StB.bel HS.out hb) rfl
    refine steps_cons (not_ch (by kernel_rfl) fun _n act w K hS hd ham hdep hK => ?_) ?_
    · skip
      obtain ⟨x21, h21, t21⟩ := hdep ⟨17, .guard⟩ (by simp) rfl 21 rfl
      rw [show x21 = .bool true from t21] at h21
      clear t21
      obtain ⟨x23, h23, t23⟩ := hdep ⟨19, .data⟩ (by simp) rfl 23 rfl
      rw [show x23 = .bool false from t23] at h23
      clear t23
      have HK := Lib.hid (fun v_ w_ (h1_ : _) (h2_ : _) (h3_ : _) => hK v_ w_ h1_ h2_ h3_ (fun h_ => absurd h_ (by decide)))
      have HS := Lib.hid hS
      clear hK ham hdep hS hd
      refine go_guard 17 21 true rfl rfl h21 ?_
      go_simp
      exact HK.out _ w (Below.refl _ _) HS.out rfl
    refine steps_cons (not_ch (by kernel_rfl) fun _n act w K hS hd ham hdep hK => ?_) ?_
    · skip
      obtain ⟨x21, h21, t21⟩ := hdep ⟨17, .data⟩ (by simp) rfl 21 rfl
      rw [show x21 = .bool true from t21] at h21
      clear t21
      obtain ⟨x24, h24, t24⟩ := hdep ⟨20, .data⟩ (by simp) rfl 24 rfl
      rw [show x24 = .bool true from t24] at h24
      clear t24
      have HK := Lib.hid (fun v_ w_ (h1_ : _) (h2_ : _) (h3_ : _) => hK v_ w_ h1_ h2_ h3_ (fun h_ => absurd h_ (by decide)))
      have HS := Lib.hid hS
      clear hK ham hdep hS hd
      refine go_plain rfl ?_
      go_simp
      exact HK.out _ w (Below.refl _ _) HS.out rfl
    refine steps_cons (not_ch (by kernel_rfl) fun _n act w K hS hd ham hdep hK => ?_) ?_
    · skip
      obtain ⟨x25, h25, t25⟩ := hdep ⟨21, .data⟩ (by simp) rfl 25 rfl
      rw [show x25 = .bool true from t25] at h25
      clear t25
      have HK := Lib.hid (fun v_ w_ (h1_ : _) (h2_ : _) (h3_ : _) => hK v_ w_ h1_ h2_ h3_ (fun h_ => absurd h_ (by decide)))
      have HS := Lib.hid hS
      clear hK ham hdep hS hd
      refine go_plain rfl ?_
      go_simp
      exact HK.out _ w (Below.refl _ _) HS.out rfl
    refine steps_cons (not_ch (by kernel_rfl) fun _n act w K hS hd ham hdep hK => ?_) ?_
    · skip
      have h1 := (ham 1 (by kernel_rfl)).trans e1
      obtain ⟨x26, h26, t26⟩ := hdep ⟨22, .guard⟩ (by simp) rfl 26 rfl
      rw [show x26 = .bool true from t26] at h26
      clear t26
      have HK := Lib.hid (fun v_ w_ (h1_ : _) (h2_ : _) (h3_ : _) => hK v_ w_ h1_ h2_ h3_ (fun h_ => absurd h_ (by decide)))
      have HS := Lib.hid hS
      clear hK ham hdep hS hd
      refine go_guard 22 26 true rfl rfl h26 ?_
      obtain ⟨c0, c1, c2, c3⟩ := cellsK hA HS.out.1
      go_simp
      exact HK.out _ w (Below.refl _ _) HS.out rfl
    refine steps_cons (not_ch (by kernel_rfl) fun _n act w K hS hd ham hdep hK => ?_) ?_
    · skip
      obtain ⟨x26, h26, t26⟩ := hdep ⟨22, .chain⟩ (by simp) rfl 26 rfl
      rw [show x26 = .bool true from t26] at h26
      clear t26
      obtain ⟨x27, h27, t27⟩ := hdep ⟨23, .data⟩ (by simp) rfl 27 rfl
      rw [show x27 = .agg #[.int .u64 8, .int .u64 1, .int .u64 0, .int .u64 9223372036854775808] from t27] at h27
      clear t27
      have HK := Lib.hid (fun v_ w_ (h1_ : _) (h2_ : _) (h3_ : _) => hK v_ w_ h1_ h2_ h3_ (fun h_ => absurd h_ (by decide)))
      have HS := Lib.hid hS
      clear hK ham hdep hS hd
      refine go_guard 22 26 true rfl rfl h26 ?_
      have hT := HS.out.2.1
      have hz := HS.out.2.2
      go_simp
      refine (k_next0 w HS.out.2.1 HS.out.2.2).mono ?_
      rintro e w' ⟨rfl, hb⟩
      exact HK.out _ w' hb (StB.bel HS.out hb) rfl
    refine steps_cons (not_ch (by kernel_rfl) fun _n act w K hS hd ham hdep hK => ?_) ?_
    · skip
      obtain ⟨x26, h26, t26⟩ := hdep ⟨22, .guard⟩ (by simp) rfl 26 rfl
      rw [show x26 = .bool true from t26] at h26
      clear t26
      obtain ⟨x28, h28, t28⟩ := hdep ⟨24, .data⟩ (by simp) rfl 28 rfl
      rw [show x28 = .int .i64 3 from t28] at h28
      clear t28
      have HK := Lib.hid (fun v_ w_ (h1_ : _) (h2_ : _) (h3_ : _) => hK v_ w_ h1_ h2_ h3_ (fun h_ => absurd h_ (by decide)))
      have HS := Lib.hid hS
      clear hK ham hdep hS hd
      refine go_guard 22 26 true rfl rfl h26 ?_
      go_simp
      exact HK.out _ w (Below.refl _ _) HS.out rfl
    refine steps_cons (not_ch (by kernel_rfl) fun _n act w K hS hd ham hdep hK => ?_) ?_
    · skip
      obtain ⟨x26, h26, t26⟩ := hdep ⟨22, .data⟩ (by simp) rfl 26 rfl
      rw [show x26 = .bool true from t26] at h26
      clear t26
      obtain ⟨x29, h29, t29⟩ := hdep ⟨25, .data⟩ (by simp) rfl 29 rfl
      rw [show x29 = .bool true from t29] at h29
      clear t29
      have HK := Lib.hid (fun v_ w_ (h1_ : _) (h2_ : _) (h3_ : _) => hK v_ w_ h1_ h2_ h3_ (fun h_ => absurd h_ (by decide)))
      have HS := Lib.hid hS
      clear hK ham hdep hS hd
      refine go_plain rfl ?_
      go_simp
      exact HK.out _ w (Below.refl _ _) HS.out rfl
    refine steps_cons (not_ch (by kernel_rfl) fun _n act w K hS hd ham hdep hK => ?_) ?_
    · skip
      obtain ⟨x30, h30, t30⟩ := hdep ⟨26, .data⟩ (by simp) rfl 30 rfl
      rw [show x30 = .bool true from t30] at h30
      clear t30
      have HK := Lib.hid (fun v_ w_ (h1_ : _) (h2_ : _) (h3_ : _) => hK v_ w_ h1_ h2_ h3_ (fun h_ => absurd h_ (by decide)))
      have HS := Lib.hid hS
      clear hK ham hdep hS hd
      refine go_plain rfl ?_
      go_simp
      exact HK.out _ w (Below.refl _ _) HS.out rfl
    refine steps_cons (not_ch (by kernel_rfl) fun _n act w K hS hd ham hdep hK => ?_) ?_
    · skip
      have h1 := (ham 1 (by kernel_rfl)).trans e1
      obtain ⟨x31, h31, t31⟩ := hdep ⟨27, .guard⟩ (by simp) rfl 31 rfl
      rw [show x31 = .bool true from t31] at h31
      clear t31
      have HK := Lib.hid (fun v_ w_ (h1_ : _) (h2_ : _) (h3_ : _) => hK v_ w_ h1_ h2_ h3_ (fun h_ => absurd h_ (by decide)))
      have HS := Lib.hid hS
      clear hK ham hdep hS hd
      refine go_guard 27 31 true rfl rfl h31 ?_
      obtain ⟨c0, c1, c2, c3⟩ := cellsK hA HS.out.1
      go_simp
      exact HK.out _ w (Below.refl _ _) HS.out rfl
    refine steps_cons (not_ch (by kernel_rfl) fun _n act w K hS hd ham hdep hK => ?_) ?_
    · skip
      obtain ⟨x31, h31, t31⟩ := hdep ⟨27, .chain⟩ (by simp) rfl 31 rfl
      rw [show x31 = .bool true from t31] at h31
      clear t31
      obtain ⟨x32, h32, t32⟩ := hdep ⟨28, .data⟩ (by simp) rfl 32 rfl
      rw [show x32 = .agg #[.int .u64 8, .int .u64 1, .int .u64 0, .int .u64 9223372036854775808] from t32] at h32
      clear t32
      have HK := Lib.hid (fun v_ w_ (h1_ : _) (h2_ : _) (h3_ : _) => hK v_ w_ h1_ h2_ h3_ (fun h_ => absurd h_ (by decide)))
      have HS := Lib.hid hS
      clear hK ham hdep hS hd
      refine go_guard 27 31 true rfl rfl h31 ?_
      have hT := HS.out.2.1
      have hz := HS.out.2.2
      go_simp
      refine (k_next4 w HS.out.2.1 HS.out.2.2).mono ?_
      rintro e w' ⟨rfl, hb⟩
      exact HK.out _ w' hb (StB.bel HS.out hb) rfl
    refine steps_cons (not_ch (by kernel_rfl) fun _n act w K hS hd ham hdep hK => ?_) ?_
    · skip
      obtain ⟨x31, h31, t31⟩ := hdep ⟨27, .guard⟩ (by simp) rfl 31 rfl
      rw [show x31 = .bool true from t31] at h31
      clear t31
      obtain ⟨x33, h33, t33⟩ := hdep ⟨29, .data⟩ (by simp) rfl 33 rfl
      rw [show x33 = .int .i64 64 from t33] at h33
      clear t33
      have HK := Lib.hid (fun v_ w_ (h1_ : _) (h2_ : _) (h3_ : _) => hK v_ w_ h1_ h2_ h3_ (fun h_ => absurd h_ (by decide)))
      have HS := Lib.hid hS
      clear hK ham hdep hS hd
      refine go_guard 27 31 true rfl rfl h31 ?_
      go_simp
      exact HK.out _ w (Below.refl _ _) HS.out rfl
    refine steps_cons (not_ch (by kernel_rfl) fun _n act w K hS hd ham hdep hK => ?_) ?_
    · skip
      obtain ⟨x31, h31, t31⟩ := hdep ⟨27, .data⟩ (by simp) rfl 31 rfl
      rw [show x31 = .bool true from t31] at h31
      clear t31
      obtain ⟨x34, h34, t34⟩ := hdep ⟨30, .data⟩ (by simp) rfl 34 rfl
      rw [show x34 = .bool true from t34] at h34
      clear t34
      have HK := Lib.hid (fun v_ w_ (h1_ : _) (h2_ : _) (h3_ : _) => hK v_ w_ h1_ h2_ h3_ (fun h_ => absurd h_ (by decide)))
      have HS := Lib.hid hS
      clear hK ham hdep hS hd
      refine go_plain rfl ?_
      go_simp
      exact HK.out _ w (Below.refl _ _) HS.out rfl
    refine steps_cons (not_ch (by kernel_rfl) fun _n act w K hS hd ham hdep hK => ?_) ?_
    · skip
      obtain ⟨x35, h35, t35⟩ := hdep ⟨31, .data⟩ (by simp) rfl 35 rfl
      rw [show x35 = .bool true from t35] at h35
      clear t35
      have HK := Lib.hid (fun v_ w_ (h1_ : _) (h2_ : _) (h3_ : _) => hK v_ w_ h1_ h2_ h3_ (fun h_ => absurd h_ (by decide)))
      have HS := Lib.hid hS
      clear hK ham hdep hS hd
      refine go_plain rfl ?_
      go_simp
      exact HK.out _ w (Below.refl _ _) HS.out rfl
    refine steps_cons (not_ch (by kernel_rfl) fun _n act w K hS hd ham hdep hK => ?_) ?_
    · skip
      have h1 := (ham 1 (by kernel_rfl)).trans e1
      obtain ⟨x36, h36, t36⟩ := hdep ⟨32, .guard⟩ (by simp) rfl 36 rfl
      rw [show x36 = .bool true from t36] at h36
      clear t36
      have HK := Lib.hid (fun v_ w_ (h1_ : _) (h2_ : _) (h3_ : _) => hK v_ w_ h1_ h2_ h3_ (fun h_ => absurd h_ (by decide)))
      have HS := Lib.hid hS
      clear hK ham hdep hS hd
      refine go_guard 32 36 true rfl rfl h36 ?_
      obtain ⟨c0, c1, c2, c3⟩ := cellsK hA HS.out.1
      go_simp
      exact HK.out _ w (Below.refl _ _) HS.out rfl
    refine steps_cons (not_ch (by kernel_rfl) fun _n act w K hS hd ham hdep hK => ?_) ?_
    · skip
      obtain ⟨x36, h36, t36⟩ := hdep ⟨32, .chain⟩ (by simp) rfl 36 rfl
      rw [show x36 = .bool true from t36] at h36
      clear t36
      obtain ⟨x37, h37, t37⟩ := hdep ⟨33, .data⟩ (by simp) rfl 37 rfl
      rw [show x37 = .agg #[.int .u64 8, .int .u64 1, .int .u64 0, .int .u64 9223372036854775808] from t37] at h37
      clear t37
      have HK := Lib.hid (fun v_ w_ (h1_ : _) (h2_ : _) (h3_ : _) => hK v_ w_ h1_ h2_ h3_ (fun h_ => absurd h_ (by decide)))
      have HS := Lib.hid hS
      clear hK ham hdep hS hd
      refine go_guard 32 36 true rfl rfl h36 ?_
      have hT := HS.out.2.1
      have hz := HS.out.2.2
      go_simp
      refine (k_next65 w HS.out.2.1 HS.out.2.2).mono ?_
      rintro e w' ⟨rfl, hb⟩
      exact HK.out _ w' hb (StB.bel HS.out hb) rfl
    refine steps_cons (not_ch (by kernel_rfl) fun _n act w K hS hd ham hdep hK => ?_) ?_
    · skip
      obtain ⟨x36, h36, t36⟩ := hdep ⟨32, .guard⟩ (by simp) rfl 36 rfl
      rw [show x36 = .bool true from t36] at h36
      clear t36
      obtain ⟨x38, h38, t38⟩ := hdep ⟨34, .data⟩ (by simp) rfl 38 rfl
      rw [show x38 = .int .i64 255 from t38] at h38
      clear t38
      have HK := Lib.hid (fun v_ w_ (h1_ : _) (h2_ : _) (h3_ : _) => hK v_ w_ h1_ h2_ h3_ (fun h_ => absurd h_ (by decide)))
      have HS := Lib.hid hS
      clear hK ham hdep hS hd
      refine go_guard 32 36 true rfl rfl h36 ?_
      go_simp
      exact HK.out _ w (Below.refl _ _) HS.out rfl
    refine steps_cons (not_ch (by kernel_rfl) fun _n act w K hS hd ham hdep hK => ?_) ?_
    · skip
      obtain ⟨x36, h36, t36⟩ := hdep ⟨32, .data⟩ (by simp) rfl 36 rfl
      rw [show x36 = .bool true from t36] at h36
      clear t36
      obtain ⟨x39, h39, t39⟩ := hdep ⟨35, .data⟩ (by simp) rfl 39 rfl
      rw [show x39 = .bool true from t39] at h39
      clear t39
      have HK := Lib.hid (fun v_ w_ (h1_ : _) (h2_ : _) (h3_ : _) => hK v_ w_ h1_ h2_ h3_ (fun h_ => absurd h_ (by decide)))
      have HS := Lib.hid hS
      clear hK ham hdep hS hd
      refine go_plain rfl ?_
      go_simp
      exact HK.out _ w (Below.refl _ _) HS.out rfl
    refine steps_cons (not_ch (by kernel_rfl) fun _n act w K hS hd ham hdep hK => ?_) ?_
    · skip
      obtain ⟨x40, h40, t40⟩ := hdep ⟨36, .data⟩ (by simp) rfl 40 rfl
      rw [show x40 = .bool true from t40] at h40
      clear t40
      have HK := Lib.hid (fun v_ w_ (h1_ : _) (h2_ : _) (h3_ : _) => hK v_ w_ h1_ h2_ h3_ (fun h_ => absurd h_ (by decide)))
      have HS := Lib.hid hS
      clear hK ham hdep hS hd
      refine go_plain rfl ?_
      go_simp
      exact HK.out _ w (Below.refl _ _) HS.out rfl
    refine steps_cons (not_ch (by kernel_rfl) fun _n act w K hS hd ham hdep hK => ?_) ?_
    · skip
      have h1 := (ham 1 (by kernel_rfl)).trans e1
      obtain ⟨x41, h41, t41⟩ := hdep ⟨37, .guard⟩ (by simp) rfl 41 rfl
      rw [show x41 = .bool true from t41] at h41
      clear t41
      have HK := Lib.hid (fun v_ w_ (h1_ : _) (h2_ : _) (h3_ : _) => hK v_ w_ h1_ h2_ h3_ (fun h_ => absurd h_ (by decide)))
      have HS := Lib.hid hS
      clear hK ham hdep hS hd
      refine go_guard 37 41 true rfl rfl h41 ?_
      obtain ⟨c0, c1, c2, c3⟩ := cellsK hA HS.out.1
      go_simp
      exact HK.out _ w (Below.refl _ _) HS.out rfl
    refine steps_cons (not_ch (by kernel_rfl) fun _n act w K hS hd ham hdep hK => ?_) ?_
    · skip
      obtain ⟨x41, h41, t41⟩ := hdep ⟨37, .chain⟩ (by simp) rfl 41 rfl
      rw [show x41 = .bool true from t41] at h41
      clear t41
      obtain ⟨x42, h42, t42⟩ := hdep ⟨38, .data⟩ (by simp) rfl 42 rfl
      rw [show x42 = .agg #[.int .u64 8, .int .u64 1, .int .u64 0, .int .u64 9223372036854775808] from t42] at h42
      clear t42
      have HK := Lib.hid (fun v_ w_ (h1_ : _) (h2_ : _) (h3_ : _) => hK v_ w_ h1_ h2_ h3_ (fun h_ => absurd h_ (by decide)))
      have HS := Lib.hid hS
      clear hK ham hdep hS hd
      refine go_guard 37 41 true rfl rfl h41 ?_
      have hT := HS.out.2.1
      have hz := HS.out.2.2
      go_simp
      refine (k_next256 w HS.out.2.1 HS.out.2.2).mono ?_
      rintro e w' ⟨rfl, hb⟩
      exact HK.out _ w' hb (StB.bel HS.out hb) rfl
    refine steps_cons (not_ch (by kernel_rfl) fun _n act w K hS hd ham hdep hK => ?_) ?_
    · skip
      obtain ⟨x41, h41, t41⟩ := hdep ⟨37, .guard⟩ (by simp) rfl 41 rfl
      rw [show x41 = .bool true from t41] at h41
      clear t41
      obtain ⟨x43, h43, t43⟩ := hdep ⟨39, .data⟩ (by simp) rfl 43 rfl
      rw [show x43 = .int .i64 (-1) from t43] at h43
      clear t43
      have HK := Lib.hid (fun v_ w_ (h1_ : _) (h2_ : _) (h3_ : _) => hK v_ w_ h1_ h2_ h3_ (fun h_ => absurd h_ (by decide)))
      have HS := Lib.hid hS
      clear hK ham hdep hS hd
      refine go_guard 37 41 true rfl rfl h41 ?_
      go_simp
      exact HK.out _ w (Below.refl _ _) HS.out rfl
    refine steps_cons (not_ch (by kernel_rfl) fun _n act w K hS hd ham hdep hK => ?_) ?_
    · skip
      obtain ⟨x41, h41, t41⟩ := hdep ⟨37, .data⟩ (by simp) rfl 41 rfl
      rw [show x41 = .bool true from t41] at h41
      clear t41
      obtain ⟨x44, h44, t44⟩ := hdep ⟨40, .data⟩ (by simp) rfl 44 rfl
      rw [show x44 = .bool true from t44] at h44
      clear t44
      have HK := Lib.hid (fun v_ w_ (h1_ : _) (h2_ : _) (h3_ : _) => hK v_ w_ h1_ h2_ h3_ (fun h_ => absurd h_ (by decide)))
      have HS := Lib.hid hS
      clear hK ham hdep hS hd
      refine go_plain rfl ?_
      go_simp
      exact HK.out _ w (Below.refl _ _) HS.out rfl
    refine steps_cons (not_ch (by kernel_rfl) fun _n act w K hS hd ham hdep hK => ?_) ?_
    · skip
      obtain ⟨x45, h45, t45⟩ := hdep ⟨41, .data⟩ (by simp) rfl 45 rfl
      rw [show x45 = .bool true from t45] at h45
      clear t45
      have HK := Lib.hid (fun v_ w_ (h1_ : _) (h2_ : _) (h3_ : _) => hK v_ w_ h1_ h2_ h3_ (fun h_ => absurd h_ (by decide)))
      have HS := Lib.hid hS
      clear hK ham hdep hS hd
      refine go_plain rfl ?_
      go_simp
      exact HK.out _ w (Below.refl _ _) HS.out rfl
    refine steps_cons (not_ch (by kernel_rfl) fun _n act w K hS hd ham hdep hK => ?_) ?_
    · skip
      have h1 := (ham 1 (by kernel_rfl)).trans e1
      obtain ⟨x46, h46, t46⟩ := hdep ⟨42, .guard⟩ (by simp) rfl 46 rfl
      rw [show x46 = .bool true from t46] at h46
      clear t46
      have HK := Lib.hid (fun v_ w_ (h1_ : _) (h2_ : _) (h3_ : _) => hK v_ w_ h1_ h2_ h3_ (fun h_ => absurd h_ (by decide)))
      have HS := Lib.hid hS
      clear hK ham hdep hS hd
      refine go_guard 42 46 true rfl rfl h46 ?_
      obtain ⟨c0, c1, c2, c3⟩ := cellsK hA HS.out.1
      go_simp
      exact HK.out _ w (Below.refl _ _) HS.out rfl
    refine steps_cons (not_ch (by kernel_rfl) fun _n act w K hS hd ham hdep hK => ?_) ?_
    · skip
      obtain ⟨x46, h46, t46⟩ := hdep ⟨42, .chain⟩ (by simp) rfl 46 rfl
      rw [show x46 = .bool true from t46] at h46
      clear t46
      obtain ⟨x47, h47, t47⟩ := hdep ⟨43, .data⟩ (by simp) rfl 47 rfl
      rw [show x47 = .agg #[.int .u64 8, .int .u64 1, .int .u64 0, .int .u64 9223372036854775808] from t47] at h47
      clear t47
      have HK := Lib.hid (fun v_ w_ (h1_ : _) (h2_ : _) (h3_ : _) => hK v_ w_ h1_ h2_ h3_ (fun h_ => absurd h_ (by decide)))
      have HS := Lib.hid hS
      clear hK ham hdep hS hd
      refine go_guard 42 46 true rfl rfl h46 ?_
      have hT := HS.out.2.1
      have hz := HS.out.2.2
      go_simp
      refine (k_nextm9 w HS.out.2.1 HS.out.2.2).mono ?_
      rintro e w' ⟨rfl, hb⟩
      exact HK.out _ w' hb (StB.bel HS.out hb) rfl
    refine steps_cons (not_ch (by kernel_rfl) fun _n act w K hS hd ham hdep hK => ?_) ?_
    · skip
      obtain ⟨x46, h46, t46⟩ := hdep ⟨42, .guard⟩ (by simp) rfl 46 rfl
      rw [show x46 = .bool true from t46] at h46
      clear t46
      obtain ⟨x48, h48, t48⟩ := hdep ⟨44, .data⟩ (by simp) rfl 48 rfl
      rw [show x48 = .int .i64 3 from t48] at h48
      clear t48
      have HK := Lib.hid (fun v_ w_ (h1_ : _) (h2_ : _) (h3_ : _) => hK v_ w_ h1_ h2_ h3_ (fun h_ => absurd h_ (by decide)))
      have HS := Lib.hid hS
      clear hK ham hdep hS hd
      refine go_guard 42 46 true rfl rfl h46 ?_
      go_simp
      exact HK.out _ w (Below.refl _ _) HS.out rfl
    refine steps_cons (not_ch (by kernel_rfl) fun _n act w K hS hd ham hdep hK => ?_) ?_
    · skip
      obtain ⟨x46, h46, t46⟩ := hdep ⟨42, .data⟩ (by simp) rfl 46 rfl
      rw [show x46 = .bool true from t46] at h46
      clear t46
      obtain ⟨x49, h49, t49⟩ := hdep ⟨45, .data⟩ (by simp) rfl 49 rfl
      rw [show x49 = .bool true from t49] at h49
      clear t49
      have HK := Lib.hid (fun v_ w_ (h1_ : _) (h2_ : _) (h3_ : _) => hK v_ w_ h1_ h2_ h3_ (fun h_ => absurd h_ (by decide)))
      have HS := Lib.hid hS
      clear hK ham hdep hS hd
      refine go_plain rfl ?_
      go_simp
      exact HK.out _ w (Below.refl _ _) HS.out rfl
    refine steps_cons (not_ch (by kernel_rfl) fun _n act w K hS hd ham hdep hK => ?_) ?_
    · skip
      obtain ⟨x50, h50, t50⟩ := hdep ⟨46, .data⟩ (by simp) rfl 50 rfl
      rw [show x50 = .bool true from t50] at h50
      clear t50
      have HK := Lib.hid (fun v_ w_ (h1_ : _) (h2_ : _) (h3_ : _) => hK v_ w_ h1_ h2_ h3_ (fun h_ => absurd h_ (by decide)))
      have HS := Lib.hid hS
      clear hK ham hdep hS hd
      refine go_plain rfl ?_
      go_simp
      exact HK.out _ w (Below.refl _ _) HS.out rfl
    refine steps_cons (not_ch (by kernel_rfl) fun _n act w K hS hd ham hdep hK => ?_) ?_
    · skip
      have h1 := (ham 1 (by kernel_rfl)).trans e1
      obtain ⟨x51, h51, t51⟩ := hdep ⟨47, .guard⟩ (by simp) rfl 51 rfl
      rw [show x51 = .bool true from t51] at h51
      clear t51
      have HK := Lib.hid (fun v_ w_ (h1_ : _) (h2_ : _) (h3_ : _) => hK v_ w_ h1_ h2_ h3_ (fun h_ => absurd h_ (by decide)))
      have HS := Lib.hid hS
      clear hK ham hdep hS hd
      refine go_guard 47 51 true rfl rfl h51 ?_
      obtain ⟨c0, c1, c2, c3⟩ := cellsK hA HS.out.1
      go_simp
      exact HK.out _ w (Below.refl _ _) HS.out rfl
    refine steps_cons (not_ch (by kernel_rfl) fun _n act w K hS hd ham hdep hK => ?_) ?_
    · skip
      obtain ⟨x51, h51, t51⟩ := hdep ⟨47, .chain⟩ (by simp) rfl 51 rfl
      rw [show x51 = .bool true from t51] at h51
      clear t51
      obtain ⟨x52, h52, t52⟩ := hdep ⟨48, .data⟩ (by simp) rfl 52 rfl
      rw [show x52 = .agg #[.int .u64 8, .int .u64 1, .int .u64 0, .int .u64 9223372036854775808] from t52] at h52
      clear t52
      have HK := Lib.hid (fun v_ w_ (h1_ : _) (h2_ : _) (h3_ : _) => hK v_ w_ h1_ h2_ h3_ (fun h_ => absurd h_ (by decide)))
      have HS := Lib.hid hS
      clear hK ham hdep hS hd
      refine go_guard 47 51 true rfl rfl h51 ?_
      go_simp
      refine (k_add3 w).mono ?_
      rintro e w' ⟨rfl, hb⟩
      exact HK.out _ w' hb (StB.bel HS.out hb) rfl
    refine steps_cons (not_ch (by kernel_rfl) fun _n act w K hS hd ham hdep hK => ?_) ?_
    · skip
      have h1 := (ham 1 (by kernel_rfl)).trans e1
      obtain ⟨x51, h51, t51⟩ := hdep ⟨47, .guard⟩ (by simp) rfl 51 rfl
      rw [show x51 = .bool true from t51] at h51
      clear t51
      have HK := Lib.hid (fun v_ w_ (h1_ : _) (h2_ : _) (h3_ : _) => hK v_ w_ h1_ h2_ h3_ (fun h_ => absurd h_ (by decide)))
      have HS := Lib.hid hS
      clear hK ham hdep hS hd
      refine go_guard 47 51 true rfl rfl h51 ?_
      obtain ⟨c0, c1, c2, c3⟩ := cellsK hA HS.out.1
      go_simp
      exact HK.out _ w (Below.refl _ _) HS.out rfl
    refine steps_cons (not_ch (by kernel_rfl) fun _n act w K hS hd ham hdep hK => ?_) ?_
    · skip
      obtain ⟨x51, h51, t51⟩ := hdep ⟨47, .guard⟩ (by simp) rfl 51 rfl
      rw [show x51 = .bool true from t51] at h51
      clear t51
      obtain ⟨x53, h53, t53⟩ := hdep ⟨49, .data⟩ (by simp) rfl 53 rfl
      rw [show x53 = .agg #[.int .u64 8, .int .u64 1, .int .u64 0, .int .u64 9223372036854775808] from t53] at h53
      clear t53
      obtain ⟨x54, h54, t54⟩ := hdep ⟨50, .data⟩ (by simp) rfl 54 rfl
      rw [show x54 = .agg #[.int .u64 8, .int .u64 1, .int .u64 0, .int .u64 9223372036854775808] from t54] at h54
      clear t54
      have HK := Lib.hid (fun v_ w_ (h1_ : _) (h2_ : _) (h3_ : _) => hK v_ w_ h1_ h2_ h3_ (fun h_ => absurd h_ (by decide)))
      have HS := Lib.hid hS
      clear hK ham hdep hS hd
      refine go_guard 47 51 true rfl rfl h51 ?_
      go_simp
      exact HK.out _ w (Below.refl _ _) HS.out rfl
    refine steps_cons (not_ch (by kernel_rfl) fun _n act w K hS hd ham hdep hK => ?_) ?_
    · skip
      obtain ⟨x51, h51, t51⟩ := hdep ⟨47, .data⟩ (by simp) rfl 51 rfl
      rw [show x51 = .bool true from t51] at h51
      clear t51
      obtain ⟨x55, h55, t55⟩ := hdep ⟨51, .data⟩ (by simp) rfl 55 rfl
      rw [show x55 = .bool true from t55] at h55
      clear t55
      have HK := Lib.hid (fun v_ w_ (h1_ : _) (h2_ : _) (h3_ : _) => hK v_ w_ h1_ h2_ h3_ (fun h_ => absurd h_ (by decide)))
      have HS := Lib.hid hS
      clear hK ham hdep hS hd
      refine go_plain rfl ?_
      go_simp
      exact HK.out _ w (Below.refl _ _) HS.out rfl
    refine steps_cons (not_ch (by kernel_rfl) fun _n act w K hS hd ham hdep hK => ?_) ?_
    · skip
      obtain ⟨x56, h56, t56⟩ := hdep ⟨52, .data⟩ (by simp) rfl 56 rfl
      rw [show x56 = .bool true from t56] at h56
      clear t56
      have HK := Lib.hid (fun v_ w_ (h1_ : _) (h2_ : _) (h3_ : _) => hK v_ w_ h1_ h2_ h3_ (fun h_ => absurd h_ (by decide)))
      have HS := Lib.hid hS
      clear hK ham hdep hS hd
      refine go_plain rfl ?_
      go_simp
      exact HK.out _ w (Below.refl _ _) HS.out rfl
    refine steps_cons (not_ch (by kernel_rfl) fun _n act w K hS hd ham hdep hK => ?_) ?_
    · skip
      have h1 := (ham 1 (by kernel_rfl)).trans e1
      obtain ⟨x57, h57, t57⟩ := hdep ⟨53, .guard⟩ (by simp) rfl 57 rfl
      rw [show x57 = .bool true from t57] at h57
      clear t57
      have HK := Lib.hid (fun v_ w_ (h1_ : _) (h2_ : _) (h3_ : _) => hK v_ w_ h1_ h2_ h3_ (fun h_ => absurd h_ (by decide)))
      have HS := Lib.hid hS
      clear hK ham hdep hS hd
      refine go_guard 53 57 true rfl rfl h57 ?_
      obtain ⟨c0, c1, c2, c3⟩ := cellsK hA HS.out.1
      go_simp
      exact HK.out _ w (Below.refl _ _) HS.out rfl
    refine steps_cons (not_ch (by kernel_rfl) fun _n act w K hS hd ham hdep hK => ?_) ?_
    · skip
      obtain ⟨x57, h57, t57⟩ := hdep ⟨53, .chain⟩ (by simp) rfl 57 rfl
      rw [show x57 = .bool true from t57] at h57
      clear t57
      obtain ⟨x58, h58, t58⟩ := hdep ⟨54, .data⟩ (by simp) rfl 58 rfl
      rw [show x58 = .agg #[.int .u64 8, .int .u64 1, .int .u64 0, .int .u64 9223372036854775808] from t58] at h58
      clear t58
      have HK := Lib.hid (fun v_ w_ (h1_ : _) (h2_ : _) (h3_ : _) => hK v_ w_ h1_ h2_ h3_ (fun h_ => absurd h_ (by decide)))
      have HS := Lib.hid hS
      clear hK ham hdep hS hd
      refine go_guard 53 57 true rfl rfl h57 ?_
      go_simp
      refine (k_del64 w).mono ?_
      rintro e w' ⟨rfl, hb⟩
      exact HK.out _ w' hb (StB.bel HS.out hb) rfl
    refine steps_cons (not_ch (by kernel_rfl) fun _n act w K hS hd ham hdep hK => ?_) ?_
    · skip
      obtain ⟨x57, h57, t57⟩ := hdep ⟨53, .guard⟩ (by simp) rfl 57 rfl
      rw [show x57 = .bool true from t57] at h57
      clear t57
      obtain ⟨x59, h59, t59⟩ := hdep ⟨55, .data⟩ (by simp) rfl 59 rfl
      rw [show x59 = .agg #[.int .u64 8, .int .u64 0, .int .u64 0, .int .u64 9223372036854775808] from t59] at h59
      clear t59
      have HK := Lib.hid (fun v_ w_ (h1_ : _) (h2_ : _) (h3_ : _) => hK v_ w_ h1_ h2_ h3_ (fun h_ => absurd h_ (by decide)))
      have HS := Lib.hid hS
      clear hK ham hdep hS hd
      refine go_guard 53 57 true rfl rfl h57 ?_
      go_simp
      refine (ball_any (S := [8, 0, 0, 9223372036854775808]) (wf_mk (by omega) (by omega) (by omega) (by omega)) w HS.out.2.1 HS.out.2.2).mono ?_
      rintro e w' ⟨v, rfl, hI, hb⟩
      exact HK.out _ w' hb (StB.bel HS.out hb) (ints_eq hI (by kernel_rfl))
    refine steps_cons (not_ch (by kernel_rfl) fun _n act w K hS hd ham hdep hK => ?_) ?_
    · skip
      obtain ⟨x57, h57, t57⟩ := hdep ⟨53, .guard⟩ (by simp) rfl 57 rfl
      rw [show x57 = .bool true from t57] at h57
      clear t57
      have HK := Lib.hid (fun v_ w_ (h1_ : _) (h2_ : _) (h3_ : _) => hK v_ w_ h1_ h2_ h3_ (fun h_ => absurd h_ (by decide)))
      have HS := Lib.hid hS
      clear hK ham hdep hS hd
      refine go_guard 53 57 true rfl rfl h57 ?_
      go_simp
      exact HK.out _ _ (fb_alloc (Below.refl _ _) _) (StB.bel HS.out (fb_alloc (Below.refl _ _) _)) (ints_lit w _ [3, 255] rfl 2 rfl)
    refine steps_cons (not_ch (by kernel_rfl) fun _n act w K hS hd ham hdep hK => ?_) ?_
    · skip
      obtain ⟨x57, h57, t57⟩ := hdep ⟨53, .guard⟩ (by simp) rfl 57 rfl
      rw [show x57 = .bool true from t57] at h57
      clear t57
      obtain ⟨x60, h60, t60⟩ := hdep ⟨56, .data⟩ (by simp) rfl 60 rfl
      have t60 := Lib.hid t60
      obtain ⟨x61, h61, t61⟩ := hdep ⟨57, .data⟩ (by simp) rfl 61 rfl
      have t61 := Lib.hid t61
      have HK := Lib.hid (fun v_ w_ (h1_ : _) (h2_ : _) (h3_ : _) => hK v_ w_ h1_ h2_ h3_ (fun h_ => absurd h_ (by decide)))
      have HS := Lib.hid hS
      clear hK ham hdep hS hd
      refine go_guard 53 57 true rfl rfl h57 ?_
      obtain ⟨av, cv, rfl⟩ := ints_form t60.out
      obtain ⟨au, cu, rfl⟩ := ints_form t61.out
      go_simp
      refine (ints_any _ _ _ [3, 255] w t60.out t61.out (by decide)).mono ?_
      rintro e w' ⟨rfl, hb⟩
      exact HK.out _ w' hb (StB.bel HS.out hb) rfl
    refine steps_cons (not_ch (by kernel_rfl) fun _n act w K hS hd ham hdep hK => ?_) ?_
    · skip
      obtain ⟨x57, h57, t57⟩ := hdep ⟨53, .data⟩ (by simp) rfl 57 rfl
      rw [show x57 = .bool true from t57] at h57
      clear t57
      obtain ⟨x62, h62, t62⟩ := hdep ⟨58, .data⟩ (by simp) rfl 62 rfl
      rw [show x62 = .bool true from t62] at h62
      clear t62
      have HK := Lib.hid (fun v_ w_ (h1_ : _) (h2_ : _) (h3_ : _) => hK v_ w_ h1_ h2_ h3_ (fun h_ => absurd h_ (by decide)))
      have HS := Lib.hid hS
      clear hK ham hdep hS hd
      refine go_plain rfl ?_
      go_simp
      exact HK.out _ w (Below.refl _ _) HS.out rfl
    refine steps_cons (not_ch (by kernel_rfl) fun _n act w K hS hd ham hdep hK => ?_) ?_
    · skip
      obtain ⟨x63, h63, t63⟩ := hdep ⟨59, .data⟩ (by simp) rfl 63 rfl
      rw [show x63 = .bool true from t63] at h63
      clear t63
      have HK := Lib.hid (fun v_ w_ (h1_ : _) (h2_ : _) (h3_ : _) => hK v_ w_ h1_ h2_ h3_ (fun h_ => absurd h_ (by decide)))
      have HS := Lib.hid hS
      clear hK ham hdep hS hd
      refine go_plain rfl ?_
      go_simp
      exact HK.out _ w (Below.refl _ _) HS.out rfl
    refine steps_cons (not_ch (by kernel_rfl) fun _n act w K hS hd ham hdep hK => ?_) ?_
    · skip
      have h1 := (ham 1 (by kernel_rfl)).trans e1
      obtain ⟨x64, h64, t64⟩ := hdep ⟨60, .guard⟩ (by simp) rfl 64 rfl
      rw [show x64 = .bool true from t64] at h64
      clear t64
      have HK := Lib.hid (fun v_ w_ (h1_ : _) (h2_ : _) (h3_ : _) => hK v_ w_ h1_ h2_ h3_ (fun h_ => absurd h_ (by decide)))
      have HS := Lib.hid hS
      clear hK ham hdep hS hd
      refine go_guard 60 64 true rfl rfl h64 ?_
      obtain ⟨c0, c1, c2, c3⟩ := cellsK hA HS.out.1
      go_simp
      exact HK.out _ w (Below.refl _ _) HS.out rfl
    refine steps_cons (not_ch (by kernel_rfl) fun _n act w K hS hd ham hdep hK => ?_) ?_
    · skip
      obtain ⟨x64, h64, t64⟩ := hdep ⟨60, .chain⟩ (by simp) rfl 64 rfl
      rw [show x64 = .bool true from t64] at h64
      clear t64
      obtain ⟨x65, h65, t65⟩ := hdep ⟨61, .data⟩ (by simp) rfl 65 rfl
      rw [show x65 = .agg #[.int .u64 8, .int .u64 1, .int .u64 0, .int .u64 9223372036854775808] from t65] at h65
      clear t65
      have HK := Lib.hid (fun v_ w_ (h1_ : _) (h2_ : _) (h3_ : _) => hK v_ w_ h1_ h2_ h3_ (fun h_ => absurd h_ (by decide)))
      have HS := Lib.hid hS
      clear hK ham hdep hS hd
      refine go_guard 60 64 true rfl rfl h64 ?_
      go_simp
      refine (k_add256 w).mono ?_
      rintro e w' ⟨rfl, hb⟩
      exact HK.out _ w' hb (StB.bel HS.out hb) rfl
    refine steps_cons (not_ch (by kernel_rfl) fun _n act w K hS hd ham hdep hK => ?_) ?_
    · skip
      have h1 := (ham 1 (by kernel_rfl)).trans e1
      obtain ⟨x64, h64, t64⟩ := hdep ⟨60, .guard⟩ (by simp) rfl 64 rfl
      rw [show x64 = .bool true from t64] at h64
      clear t64
      have HK := Lib.hid (fun v_ w_ (h1_ : _) (h2_ : _) (h3_ : _) => hK v_ w_ h1_ h2_ h3_ (fun h_ => absurd h_ (by decide)))
      have HS := Lib.hid hS
      clear hK ham hdep hS hd
      refine go_guard 60 64 true rfl rfl h64 ?_
      obtain ⟨c0, c1, c2, c3⟩ := cellsK hA HS.out.1
      go_simp
      exact HK.out _ w (Below.refl _ _) HS.out rfl
    refine steps_cons (not_ch (by kernel_rfl) fun _n act w K hS hd ham hdep hK => ?_) ?_
    · skip
      obtain ⟨x64, h64, t64⟩ := hdep ⟨60, .guard⟩ (by simp) rfl 64 rfl
      rw [show x64 = .bool true from t64] at h64
      clear t64
      obtain ⟨x66, h66, t66⟩ := hdep ⟨62, .data⟩ (by simp) rfl 66 rfl
      rw [show x66 = .agg #[.int .u64 8, .int .u64 1, .int .u64 0, .int .u64 9223372036854775808] from t66] at h66
      clear t66
      obtain ⟨x67, h67, t67⟩ := hdep ⟨63, .data⟩ (by simp) rfl 67 rfl
      rw [show x67 = .agg #[.int .u64 8, .int .u64 1, .int .u64 0, .int .u64 9223372036854775808] from t67] at h67
      clear t67
      have HK := Lib.hid (fun v_ w_ (h1_ : _) (h2_ : _) (h3_ : _) => hK v_ w_ h1_ h2_ h3_ (fun h_ => absurd h_ (by decide)))
      have HS := Lib.hid hS
      clear hK ham hdep hS hd
      refine go_guard 60 64 true rfl rfl h64 ?_
      go_simp
      exact HK.out _ w (Below.refl _ _) HS.out rfl
    refine steps_cons (not_ch (by kernel_rfl) fun _n act w K hS hd ham hdep hK => ?_) ?_
    · skip
      obtain ⟨x64, h64, t64⟩ := hdep ⟨60, .data⟩ (by simp) rfl 64 rfl
      rw [show x64 = .bool true from t64] at h64
      clear t64
      obtain ⟨x68, h68, t68⟩ := hdep ⟨64, .data⟩ (by simp) rfl 68 rfl
      rw [show x68 = .bool true from t68] at h68
      clear t68
      have HK := Lib.hid (fun v_ w_ (h1_ : _) (h2_ : _) (h3_ : _) => hK v_ w_ h1_ h2_ h3_ (fun h_ => absurd h_ (by decide)))
      have HS := Lib.hid hS
      clear hK ham hdep hS hd
      refine go_plain rfl ?_
      go_simp
      exact HK.out _ w (Below.refl _ _) HS.out rfl
    refine steps_cons (not_ch (by kernel_rfl) fun _n act w K hS hd ham hdep hK => ?_) ?_
    · skip
      obtain ⟨x69, h69, t69⟩ := hdep ⟨65, .data⟩ (by simp) rfl 69 rfl
      rw [show x69 = .bool true from t69] at h69
      clear t69
      have HK := Lib.hid (fun v_ w_ (h1_ : _) (h2_ : _) (h3_ : _) => hK v_ w_ h1_ h2_ h3_ (fun h_ => absurd h_ (by decide)))
      have HS := Lib.hid hS
      clear hK ham hdep hS hd
      refine go_plain rfl ?_
      go_simp
      exact HK.out _ w (Below.refl _ _) HS.out rfl
    refine steps_cons (not_ch (by kernel_rfl) fun _n act w K hS hd ham hdep hK => ?_) ?_
    · skip
      have h1 := (ham 1 (by kernel_rfl)).trans e1
      obtain ⟨x70, h70, t70⟩ := hdep ⟨66, .guard⟩ (by simp) rfl 70 rfl
      rw [show x70 = .bool true from t70] at h70
      clear t70
      have HK := Lib.hid (fun v_ w_ (h1_ : _) (h2_ : _) (h3_ : _) => hK v_ w_ h1_ h2_ h3_ (fun h_ => absurd h_ (by decide)))
      have HS := Lib.hid hS
      clear hK ham hdep hS hd
      refine go_guard 66 70 true rfl rfl h70 ?_
      obtain ⟨c0, c1, c2, c3⟩ := cellsK hA HS.out.1
      go_simp
      exact HK.out _ w (Below.refl _ _) HS.out rfl
    refine steps_cons (not_ch (by kernel_rfl) fun _n act w K hS hd ham hdep hK => ?_) ?_
    · skip
      obtain ⟨x70, h70, t70⟩ := hdep ⟨66, .guard⟩ (by simp) rfl 70 rfl
      rw [show x70 = .bool true from t70] at h70
      clear t70
      have HK := Lib.hid (fun v_ w_ (h1_ : _) (h2_ : _) (h3_ : _) => hK v_ w_ h1_ h2_ h3_ (fun h_ => absurd h_ (by decide)))
      have HS := Lib.hid hS
      clear hK ham hdep hS hd
      refine go_guard 66 70 true rfl rfl h70 ?_
      go_simp
      exact HK.out _ _ (fb_alloc (Below.refl _ _) _) (StB.bel HS.out (fb_alloc (Below.refl _ _) _)) (ints_lit w _ [64] rfl 1 rfl)
    refine steps_cons (not_ch (by kernel_rfl) fun _n act w K hS hd ham hdep hK => ?_) ?_
    · skip
      obtain ⟨x70, h70, t70⟩ := hdep ⟨66, .chain⟩ (by simp) rfl 70 rfl
      rw [show x70 = .bool true from t70] at h70
      clear t70
      obtain ⟨x72, h72, t72⟩ := hdep ⟨68, .data⟩ (by simp) rfl 72 rfl
      have t72 := Lib.hid t72
      have HK := Lib.hid (fun v_ w_ (h1_ : _) (h2_ : _) (h3_ : _) => hK v_ w_ h1_ h2_ h3_ (fun h_ => absurd h_ (by decide)))
      have HS := Lib.hid hS
      clear hK ham hdep hS hd
      refine go_guard 66 70 true rfl rfl h70 ?_
      obtain ⟨av, cv, rfl⟩ := ints_form t72.out
      go_simp
      refine (of_any _ [64] w t72.out (by decide)).mono ?_
      rintro e w' ⟨rfl, hb⟩
      exact HK.out _ w' hb (StB.bel HS.out hb) (show svL (setOf [64]) = .agg #[.int .u64 0, .int .u64 1, .int .u64 0, .int .u64 0] by kernel_rfl)
    refine steps_cons (not_ch (by kernel_rfl) fun _n act w K hS hd ham hdep hK => ?_) ?_
    · skip
      obtain ⟨x70, h70, t70⟩ := hdep ⟨66, .guard⟩ (by simp) rfl 70 rfl
      rw [show x70 = .bool true from t70] at h70
      clear t70
      obtain ⟨x71, h71, t71⟩ := hdep ⟨67, .data⟩ (by simp) rfl 71 rfl
      rw [show x71 = .agg #[.int .u64 8, .int .u64 1, .int .u64 0, .int .u64 9223372036854775808] from t71] at h71
      clear t71
      obtain ⟨x73, h73, t73⟩ := hdep ⟨69, .data⟩ (by simp) rfl 73 rfl
      rw [show x73 = .agg #[.int .u64 0, .int .u64 1, .int .u64 0, .int .u64 0] from t73] at h73
      clear t73
      have HK := Lib.hid (fun v_ w_ (h1_ : _) (h2_ : _) (h3_ : _) => hK v_ w_ h1_ h2_ h3_ (fun h_ => absurd h_ (by decide)))
      have HS := Lib.hid hS
      clear hK ham hdep hS hd
      refine go_guard 66 70 true rfl rfl h70 ?_
      go_simp
      refine (k_and w).mono ?_
      rintro e w' ⟨rfl, hb⟩
      exact HK.out _ w' hb (StB.bel HS.out hb) rfl
    refine steps_cons (not_ch (by kernel_rfl) fun _n act w K hS hd ham hdep hK => ?_) ?_
    · skip
      obtain ⟨x70, h70, t70⟩ := hdep ⟨66, .guard⟩ (by simp) rfl 70 rfl
      rw [show x70 = .bool true from t70] at h70
      clear t70
      have HK := Lib.hid (fun v_ w_ (h1_ : _) (h2_ : _) (h3_ : _) => hK v_ w_ h1_ h2_ h3_ (fun h_ => absurd h_ (by decide)))
      have HS := Lib.hid hS
      clear hK ham hdep hS hd
      refine go_guard 66 70 true rfl rfl h70 ?_
      go_simp
      exact HK.out _ _ (fb_alloc (Below.refl _ _) _) (StB.bel HS.out (fb_alloc (Below.refl _ _) _)) (ints_lit w _ [64] rfl 1 rfl)
    refine steps_cons (not_ch (by kernel_rfl) fun _n act w K hS hd ham hdep hK => ?_) ?_
    · skip
      obtain ⟨x70, h70, t70⟩ := hdep ⟨66, .guard⟩ (by simp) rfl 70 rfl
      rw [show x70 = .bool true from t70] at h70
      clear t70
      obtain ⟨x75, h75, t75⟩ := hdep ⟨71, .data⟩ (by simp) rfl 75 rfl
      have t75 := Lib.hid t75
      have HK := Lib.hid (fun v_ w_ (h1_ : _) (h2_ : _) (h3_ : _) => hK v_ w_ h1_ h2_ h3_ (fun h_ => absurd h_ (by decide)))
      have HS := Lib.hid hS
      clear hK ham hdep hS hd
      refine go_guard 66 70 true rfl rfl h70 ?_
      obtain ⟨av, cv, rfl⟩ := ints_form t75.out
      go_simp
      refine (of_any _ [64] w t75.out (by decide)).mono ?_
      rintro e w' ⟨rfl, hb⟩
      exact HK.out _ w' hb (StB.bel HS.out hb) (show svL (setOf [64]) = .agg #[.int .u64 0, .int .u64 1, .int .u64 0, .int .u64 0] by kernel_rfl)
    refine steps_cons (not_ch (by kernel_rfl) fun _n act w K hS hd ham hdep hK => ?_) ?_
    · skip
      obtain ⟨x70, h70, t70⟩ := hdep ⟨66, .guard⟩ (by simp) rfl 70 rfl
      rw [show x70 = .bool true from t70] at h70
      clear t70
      obtain ⟨x74, h74, t74⟩ := hdep ⟨70, .data⟩ (by simp) rfl 74 rfl
      rw [show x74 = .agg #[.int .u64 0, .int .u64 1, .int .u64 0, .int .u64 0] from t74] at h74
      clear t74
      obtain ⟨x76, h76, t76⟩ := hdep ⟨72, .data⟩ (by simp) rfl 76 rfl
      rw [show x76 = .agg #[.int .u64 0, .int .u64 1, .int .u64 0, .int .u64 0] from t76] at h76
      clear t76
      have HK := Lib.hid (fun v_ w_ (h1_ : _) (h2_ : _) (h3_ : _) => hK v_ w_ h1_ h2_ h3_ (fun h_ => absurd h_ (by decide)))
      have HS := Lib.hid hS
      clear hK ham hdep hS hd
      refine go_guard 66 70 true rfl rfl h70 ?_
      go_simp
      exact HK.out _ w (Below.refl _ _) HS.out rfl
    refine steps_cons (not_ch (by kernel_rfl) fun _n act w K hS hd ham hdep hK => ?_) ?_
    · skip
      obtain ⟨x70, h70, t70⟩ := hdep ⟨66, .data⟩ (by simp) rfl 70 rfl
      rw [show x70 = .bool true from t70] at h70
      clear t70
      obtain ⟨x77, h77, t77⟩ := hdep ⟨73, .data⟩ (by simp) rfl 77 rfl
      rw [show x77 = .bool true from t77] at h77
      clear t77
      have HK := Lib.hid (fun v_ w_ (h1_ : _) (h2_ : _) (h3_ : _) => hK v_ w_ h1_ h2_ h3_ (fun h_ => absurd h_ (by decide)))
      have HS := Lib.hid hS
      clear hK ham hdep hS hd
      refine go_plain rfl ?_
      go_simp
      exact HK.out _ w (Below.refl _ _) HS.out rfl
    refine steps_cons (not_ch (by kernel_rfl) fun _n act w K hS hd ham hdep hK => ?_) ?_
    · skip
      obtain ⟨x78, h78, t78⟩ := hdep ⟨74, .data⟩ (by simp) rfl 78 rfl
      rw [show x78 = .bool true from t78] at h78
      clear t78
      have HK := Lib.hid (fun v_ w_ (h1_ : _) (h2_ : _) (h3_ : _) => hK v_ w_ h1_ h2_ h3_ (fun h_ => absurd h_ (by decide)))
      have HS := Lib.hid hS
      clear hK ham hdep hS hd
      refine go_plain rfl ?_
      go_simp
      exact HK.out _ w (Below.refl _ _) HS.out rfl
    refine steps_cons (not_ch (by kernel_rfl) fun _n act w K hS hd ham hdep hK => ?_) ?_
    · skip
      have h1 := (ham 1 (by kernel_rfl)).trans e1
      obtain ⟨x79, h79, t79⟩ := hdep ⟨75, .guard⟩ (by simp) rfl 79 rfl
      rw [show x79 = .bool true from t79] at h79
      clear t79
      have HK := Lib.hid (fun v_ w_ (h1_ : _) (h2_ : _) (h3_ : _) => hK v_ w_ h1_ h2_ h3_ (fun h_ => absurd h_ (by decide)))
      have HS := Lib.hid hS
      clear hK ham hdep hS hd
      refine go_guard 75 79 true rfl rfl h79 ?_
      obtain ⟨c0, c1, c2, c3⟩ := cellsK hA HS.out.1
      go_simp
      exact HK.out _ w (Below.refl _ _) HS.out rfl
    refine steps_cons (not_ch (by kernel_rfl) fun _n act w K hS hd ham hdep hK => ?_) ?_
    · skip
      obtain ⟨x79, h79, t79⟩ := hdep ⟨75, .guard⟩ (by simp) rfl 79 rfl
      rw [show x79 = .bool true from t79] at h79
      clear t79
      have HK := Lib.hid (fun v_ w_ (h1_ : _) (h2_ : _) (h3_ : _) => hK v_ w_ h1_ h2_ h3_ (fun h_ => absurd h_ (by decide)))
      have HS := Lib.hid hS
      clear hK ham hdep hS hd
      refine go_guard 75 79 true rfl rfl h79 ?_
      go_simp
      exact HK.out _ _ (fb_alloc (Below.refl _ _) _) (StB.bel HS.out (fb_alloc (Below.refl _ _) _)) (ints_lit w _ [64] rfl 1 rfl)
    refine steps_cons (not_ch (by kernel_rfl) fun _n act w K hS hd ham hdep hK => ?_) ?_
    · skip
      obtain ⟨x79, h79, t79⟩ := hdep ⟨75, .chain⟩ (by simp) rfl 79 rfl
      rw [show x79 = .bool true from t79] at h79
      clear t79
      obtain ⟨x81, h81, t81⟩ := hdep ⟨77, .data⟩ (by simp) rfl 81 rfl
      have t81 := Lib.hid t81
      have HK := Lib.hid (fun v_ w_ (h1_ : _) (h2_ : _) (h3_ : _) => hK v_ w_ h1_ h2_ h3_ (fun h_ => absurd h_ (by decide)))
      have HS := Lib.hid hS
      clear hK ham hdep hS hd
      refine go_guard 75 79 true rfl rfl h79 ?_
      obtain ⟨av, cv, rfl⟩ := ints_form t81.out
      go_simp
      refine (of_any _ [64] w t81.out (by decide)).mono ?_
      rintro e w' ⟨rfl, hb⟩
      exact HK.out _ w' hb (StB.bel HS.out hb) (show svL (setOf [64]) = .agg #[.int .u64 0, .int .u64 1, .int .u64 0, .int .u64 0] by kernel_rfl)
    refine steps_cons (not_ch (by kernel_rfl) fun _n act w K hS hd ham hdep hK => ?_) ?_
    · skip
      obtain ⟨x79, h79, t79⟩ := hdep ⟨75, .guard⟩ (by simp) rfl 79 rfl
      rw [show x79 = .bool true from t79] at h79
      clear t79
      obtain ⟨x80, h80, t80⟩ := hdep ⟨76, .data⟩ (by simp) rfl 80 rfl
      rw [show x80 = .agg #[.int .u64 8, .int .u64 1, .int .u64 0, .int .u64 9223372036854775808] from t80] at h80
      clear t80
      obtain ⟨x82, h82, t82⟩ := hdep ⟨78, .data⟩ (by simp) rfl 82 rfl
      rw [show x82 = .agg #[.int .u64 0, .int .u64 1, .int .u64 0, .int .u64 0] from t82] at h82
      clear t82
      have HK := Lib.hid (fun v_ w_ (h1_ : _) (h2_ : _) (h3_ : _) => hK v_ w_ h1_ h2_ h3_ (fun h_ => absurd h_ (by decide)))
      have HS := Lib.hid hS
      clear hK ham hdep hS hd
      refine go_guard 75 79 true rfl rfl h79 ?_
      go_simp
      refine (k_minus w).mono ?_
      rintro e w' ⟨rfl, hb⟩
      exact HK.out _ w' hb (StB.bel HS.out hb) rfl
    refine steps_cons (not_ch (by kernel_rfl) fun _n act w K hS hd ham hdep hK => ?_) ?_
    · skip
      obtain ⟨x79, h79, t79⟩ := hdep ⟨75, .guard⟩ (by simp) rfl 79 rfl
      rw [show x79 = .bool true from t79] at h79
      clear t79
      have HK := Lib.hid (fun v_ w_ (h1_ : _) (h2_ : _) (h3_ : _) => hK v_ w_ h1_ h2_ h3_ (fun h_ => absurd h_ (by decide)))
      have HS := Lib.hid hS
      clear hK ham hdep hS hd
      refine go_guard 75 79 true rfl rfl h79 ?_
      go_simp
      exact HK.out _ _ (fb_alloc (Below.refl _ _) _) (StB.bel HS.out (fb_alloc (Below.refl _ _) _)) (ints_lit w _ [3, 255] rfl 2 rfl)
    refine steps_cons (not_ch (by kernel_rfl) fun _n act w K hS hd ham hdep hK => ?_) ?_
    · skip
      obtain ⟨x79, h79, t79⟩ := hdep ⟨75, .guard⟩ (by simp) rfl 79 rfl
      rw [show x79 = .bool true from t79] at h79
      clear t79
      obtain ⟨x84, h84, t84⟩ := hdep ⟨80, .data⟩ (by simp) rfl 84 rfl
      have t84 := Lib.hid t84
      have HK := Lib.hid (fun v_ w_ (h1_ : _) (h2_ : _) (h3_ : _) => hK v_ w_ h1_ h2_ h3_ (fun h_ => absurd h_ (by decide)))
      have HS := Lib.hid hS
      clear hK ham hdep hS hd
      refine go_guard 75 79 true rfl rfl h79 ?_
      obtain ⟨av, cv, rfl⟩ := ints_form t84.out
      go_simp
      refine (of_any _ [3, 255] w t84.out (by decide)).mono ?_
      rintro e w' ⟨rfl, hb⟩
      exact HK.out _ w' hb (StB.bel HS.out hb) (show svL (setOf [3, 255]) = .agg #[.int .u64 8, .int .u64 0, .int .u64 0, .int .u64 9223372036854775808] by kernel_rfl)
    refine steps_cons (not_ch (by kernel_rfl) fun _n act w K hS hd ham hdep hK => ?_) ?_
    · skip
      obtain ⟨x79, h79, t79⟩ := hdep ⟨75, .guard⟩ (by simp) rfl 79 rfl
      rw [show x79 = .bool true from t79] at h79
      clear t79
      obtain ⟨x83, h83, t83⟩ := hdep ⟨79, .data⟩ (by simp) rfl 83 rfl
      rw [show x83 = .agg #[.int .u64 8, .int .u64 0, .int .u64 0, .int .u64 9223372036854775808] from t83] at h83
      clear t83
      obtain ⟨x85, h85, t85⟩ := hdep ⟨81, .data⟩ (by simp) rfl 85 rfl
      rw [show x85 = .agg #[.int .u64 8, .int .u64 0, .int .u64 0, .int .u64 9223372036854775808] from t85] at h85
      clear t85
      have HK := Lib.hid (fun v_ w_ (h1_ : _) (h2_ : _) (h3_ : _) => hK v_ w_ h1_ h2_ h3_ (fun h_ => absurd h_ (by decide)))
      have HS := Lib.hid hS
      clear hK ham hdep hS hd
      refine go_guard 75 79 true rfl rfl h79 ?_
      go_simp
      exact HK.out _ w (Below.refl _ _) HS.out rfl
    refine steps_cons (not_ch (by kernel_rfl) fun _n act w K hS hd ham hdep hK => ?_) ?_
    · skip
      obtain ⟨x79, h79, t79⟩ := hdep ⟨75, .data⟩ (by simp) rfl 79 rfl
      rw [show x79 = .bool true from t79] at h79
      clear t79
      obtain ⟨x86, h86, t86⟩ := hdep ⟨82, .data⟩ (by simp) rfl 86 rfl
      rw [show x86 = .bool true from t86] at h86
      clear t86
      have HK := Lib.hid (fun v_ w_ (h1_ : _) (h2_ : _) (h3_ : _) => hK v_ w_ h1_ h2_ h3_ (fun h_ => absurd h_ (by decide)))
      have HS := Lib.hid hS
      clear hK ham hdep hS hd
      refine go_plain rfl ?_
      go_simp
      exact HK.out _ w (Below.refl _ _) HS.out rfl
    refine steps_cons (not_ch (by kernel_rfl) fun _n act w K hS hd ham hdep hK => ?_) ?_
    · skip
      obtain ⟨x87, h87, t87⟩ := hdep ⟨83, .data⟩ (by simp) rfl 87 rfl
      rw [show x87 = .bool true from t87] at h87
      clear t87
      have HK := Lib.hid (fun v_ w_ (h1_ : _) (h2_ : _) (h3_ : _) => hK v_ w_ h1_ h2_ h3_ (fun h_ => absurd h_ (by decide)))
      have HS := Lib.hid hS
      clear hK ham hdep hS hd
      refine go_plain rfl ?_
      go_simp
      exact HK.out _ w (Below.refl _ _) HS.out rfl
    refine steps_cons (not_ch (by kernel_rfl) fun _n act w K hS hd ham hdep hK => ?_) ?_
    · skip
      obtain ⟨x88, h88, t88⟩ := hdep ⟨84, .guard⟩ (by simp) rfl 88 rfl
      rw [show x88 = .bool true from t88] at h88
      clear t88
      have HK := Lib.hid (fun v_ w_ (h1_ : _) (h2_ : _) (h3_ : _) => hK v_ w_ h1_ h2_ h3_ (fun h_ => absurd h_ (by decide)))
      have HS := Lib.hid hS
      clear hK ham hdep hS hd
      refine go_guard 84 88 true rfl rfl h88 ?_
      go_simp
      exact HK.out _ _ (fb_alloc (Below.refl _ _) _) (StB.bel HS.out (fb_alloc (Below.refl _ _) _)) (ints_lit w _ [1] rfl 1 rfl)
    refine steps_cons (not_ch (by kernel_rfl) fun _n act w K hS hd ham hdep hK => ?_) ?_
    · skip
      obtain ⟨x88, h88, t88⟩ := hdep ⟨84, .chain⟩ (by simp) rfl 88 rfl
      rw [show x88 = .bool true from t88] at h88
      clear t88
      obtain ⟨x89, h89, t89⟩ := hdep ⟨85, .data⟩ (by simp) rfl 89 rfl
      have t89 := Lib.hid t89
      have HK := Lib.hid (fun v_ w_ (h1_ : _) (h2_ : _) (h3_ : _) => hK v_ w_ h1_ h2_ h3_ (fun h_ => absurd h_ (by decide)))
      have HS := Lib.hid hS
      clear hK ham hdep hS hd
      refine go_guard 84 88 true rfl rfl h88 ?_
      obtain ⟨av, cv, rfl⟩ := ints_form t89.out
      go_simp
      refine (of_any _ [1] w t89.out (by decide)).mono ?_
      rintro e w' ⟨rfl, hb⟩
      exact HK.out _ w' hb (StB.bel HS.out hb) (show svL (setOf [1]) = .agg #[.int .u64 2, .int .u64 0, .int .u64 0, .int .u64 0] by kernel_rfl)
    refine steps_cons (not_ch (by kernel_rfl) fun _n act w K hS hd ham hdep hK => ?_) ?_
    · skip
      obtain ⟨x88, h88, t88⟩ := hdep ⟨84, .guard⟩ (by simp) rfl 88 rfl
      rw [show x88 = .bool true from t88] at h88
      clear t88
      have HK := Lib.hid (fun v_ w_ (h1_ : _) (h2_ : _) (h3_ : _) => hK v_ w_ h1_ h2_ h3_ (fun h_ => absurd h_ (by decide)))
      have HS := Lib.hid hS
      clear hK ham hdep hS hd
      refine go_guard 84 88 true rfl rfl h88 ?_
      go_simp
      exact HK.out _ _ (fb_alloc (Below.refl _ _) _) (StB.bel HS.out (fb_alloc (Below.refl _ _) _)) (ints_lit w _ [2] rfl 1 rfl)
    refine steps_cons (not_ch (by kernel_rfl) fun _n act w K hS hd ham hdep hK => ?_) ?_
    · skip
      obtain ⟨x88, h88, t88⟩ := hdep ⟨84, .guard⟩ (by simp) rfl 88 rfl
      rw [show x88 = .bool true from t88] at h88
      clear t88
      obtain ⟨x91, h91, t91⟩ := hdep ⟨87, .data⟩ (by simp) rfl 91 rfl
      have t91 := Lib.hid t91
      have HK := Lib.hid (fun v_ w_ (h1_ : _) (h2_ : _) (h3_ : _) => hK v_ w_ h1_ h2_ h3_ (fun h_ => absurd h_ (by decide)))
      have HS := Lib.hid hS
      clear hK ham hdep hS hd
      refine go_guard 84 88 true rfl rfl h88 ?_
      obtain ⟨av, cv, rfl⟩ := ints_form t91.out
      go_simp
      refine (of_any _ [2] w t91.out (by decide)).mono ?_
      rintro e w' ⟨rfl, hb⟩
      exact HK.out _ w' hb (StB.bel HS.out hb) (show svL (setOf [2]) = .agg #[.int .u64 4, .int .u64 0, .int .u64 0, .int .u64 0] by kernel_rfl)
    refine steps_cons (not_ch (by kernel_rfl) fun _n act w K hS hd ham hdep hK => ?_) ?_
    · skip
      obtain ⟨x88, h88, t88⟩ := hdep ⟨84, .guard⟩ (by simp) rfl 88 rfl
      rw [show x88 = .bool true from t88] at h88
      clear t88
      obtain ⟨x90, h90, t90⟩ := hdep ⟨86, .data⟩ (by simp) rfl 90 rfl
      rw [show x90 = .agg #[.int .u64 2, .int .u64 0, .int .u64 0, .int .u64 0] from t90] at h90
      clear t90
      obtain ⟨x92, h92, t92⟩ := hdep ⟨88, .data⟩ (by simp) rfl 92 rfl
      rw [show x92 = .agg #[.int .u64 4, .int .u64 0, .int .u64 0, .int .u64 0] from t92] at h92
      clear t92
      have HK := Lib.hid (fun v_ w_ (h1_ : _) (h2_ : _) (h3_ : _) => hK v_ w_ h1_ h2_ h3_ (fun h_ => absurd h_ (by decide)))
      have HS := Lib.hid hS
      clear hK ham hdep hS hd
      refine go_guard 84 88 true rfl rfl h88 ?_
      go_simp
      refine (k_or w).mono ?_
      rintro e w' ⟨rfl, hb⟩
      exact HK.out _ w' hb (StB.bel HS.out hb) rfl
    refine steps_cons (not_ch (by kernel_rfl) fun _n act w K hS hd ham hdep hK => ?_) ?_
    · skip
      obtain ⟨x88, h88, t88⟩ := hdep ⟨84, .guard⟩ (by simp) rfl 88 rfl
      rw [show x88 = .bool true from t88] at h88
      clear t88
      obtain ⟨x93, h93, t93⟩ := hdep ⟨89, .data⟩ (by simp) rfl 93 rfl
      rw [show x93 = .agg #[.int .u64 6, .int .u64 0, .int .u64 0, .int .u64 0] from t93] at h93
      clear t93
      have HK := Lib.hid (fun v_ w_ (h1_ : _) (h2_ : _) (h3_ : _) => hK v_ w_ h1_ h2_ h3_ (fun h_ => absurd h_ (by decide)))
      have HS := Lib.hid hS
      clear hK ham hdep hS hd
      refine go_guard 84 88 true rfl rfl h88 ?_
      go_simp
      refine (ball_any (S := [6, 0, 0, 0]) (wf_mk (by omega) (by omega) (by omega) (by omega)) w HS.out.2.1 HS.out.2.2).mono ?_
      rintro e w' ⟨v, rfl, hI, hb⟩
      exact HK.out _ w' hb (StB.bel HS.out hb) (ints_eq hI (by kernel_rfl))
    refine steps_cons (not_ch (by kernel_rfl) fun _n act w K hS hd ham hdep hK => ?_) ?_
    · skip
      obtain ⟨x88, h88, t88⟩ := hdep ⟨84, .guard⟩ (by simp) rfl 88 rfl
      rw [show x88 = .bool true from t88] at h88
      clear t88
      have HK := Lib.hid (fun v_ w_ (h1_ : _) (h2_ : _) (h3_ : _) => hK v_ w_ h1_ h2_ h3_ (fun h_ => absurd h_ (by decide)))
      have HS := Lib.hid hS
      clear hK ham hdep hS hd
      refine go_guard 84 88 true rfl rfl h88 ?_
      go_simp
      exact HK.out _ _ (fb_alloc (Below.refl _ _) _) (StB.bel HS.out (fb_alloc (Below.refl _ _) _)) (ints_lit w _ [1, 2] rfl 2 rfl)
    refine steps_cons (not_ch (by kernel_rfl) fun _n act w K hS hd ham hdep hK => ?_) ?_
    · skip
      obtain ⟨x88, h88, t88⟩ := hdep ⟨84, .guard⟩ (by simp) rfl 88 rfl
      rw [show x88 = .bool true from t88] at h88
      clear t88
      obtain ⟨x94, h94, t94⟩ := hdep ⟨90, .data⟩ (by simp) rfl 94 rfl
      have t94 := Lib.hid t94
      obtain ⟨x95, h95, t95⟩ := hdep ⟨91, .data⟩ (by simp) rfl 95 rfl
      have t95 := Lib.hid t95
      have HK := Lib.hid (fun v_ w_ (h1_ : _) (h2_ : _) (h3_ : _) => hK v_ w_ h1_ h2_ h3_ (fun h_ => absurd h_ (by decide)))
      have HS := Lib.hid hS
      clear hK ham hdep hS hd
      refine go_guard 84 88 true rfl rfl h88 ?_
      obtain ⟨av, cv, rfl⟩ := ints_form t94.out
      obtain ⟨au, cu, rfl⟩ := ints_form t95.out
      go_simp
      refine (ints_any _ _ _ [1, 2] w t94.out t95.out (by decide)).mono ?_
      rintro e w' ⟨rfl, hb⟩
      exact HK.out _ w' hb (StB.bel HS.out hb) rfl
    refine steps_cons (not_ch (by kernel_rfl) fun _n act w K hS hd ham hdep hK => ?_) ?_
    · skip
      obtain ⟨x88, h88, t88⟩ := hdep ⟨84, .data⟩ (by simp) rfl 88 rfl
      rw [show x88 = .bool true from t88] at h88
      clear t88
      obtain ⟨x96, h96, t96⟩ := hdep ⟨92, .data⟩ (by simp) rfl 96 rfl
      rw [show x96 = .bool true from t96] at h96
      clear t96
      have HK := Lib.hid (fun v_ w_ (h1_ : _) (h2_ : _) (h3_ : _) => hK v_ w_ h1_ h2_ h3_ (fun h_ => absurd h_ (by decide)))
      have HS := Lib.hid hS
      clear hK ham hdep hS hd
      refine go_plain rfl ?_
      go_simp
      exact HK.out _ w (Below.refl _ _) HS.out rfl
    refine steps_cons (not_ch (by kernel_rfl) fun _n act w K hS hd ham hdep hK => ?_) ?_
    · skip
      obtain ⟨x97, h97, t97⟩ := hdep ⟨93, .data⟩ (by simp) rfl 97 rfl
      rw [show x97 = .bool true from t97] at h97
      clear t97
      have HK := Lib.hid (fun v_ w_ (h1_ : _) (h2_ : _) (h3_ : _) => hK v_ w_ h1_ h2_ h3_ (fun h_ => absurd h_ (by decide)))
      have HS := Lib.hid hS
      clear hK ham hdep hS hd
      refine go_plain rfl ?_
      go_simp
      exact HK.out _ w (Below.refl _ _) HS.out rfl
    refine steps_cons (not_ch (by kernel_rfl) fun _n act w K hS hd ham hdep hK => ?_) ?_
    · skip
      have h1 := (ham 1 (by kernel_rfl)).trans e1
      obtain ⟨x98, h98, t98⟩ := hdep ⟨94, .guard⟩ (by simp) rfl 98 rfl
      rw [show x98 = .bool true from t98] at h98
      clear t98
      have HK := Lib.hid (fun v_ w_ (h1_ : _) (h2_ : _) (h3_ : _) => hK v_ w_ h1_ h2_ h3_ (fun h_ => absurd h_ (by decide)))
      have HS := Lib.hid hS
      clear hK ham hdep hS hd
      refine go_guard 94 98 true rfl rfl h98 ?_
      go_simp
      exact HK.out _ w (Below.refl _ _) HS.out rfl
    refine steps_cons (not_ch (by kernel_rfl) fun _n act w K hS hd ham hdep hK => ?_) ?_
    · skip
      obtain ⟨x98, h98, t98⟩ := hdep ⟨94, .guard⟩ (by simp) rfl 98 rfl
      rw [show x98 = .bool true from t98] at h98
      clear t98
      obtain ⟨x99, h99, t99⟩ := hdep ⟨95, .data⟩ (by simp) rfl 99 rfl
      rw [show x99 = .pointer (some ⟨B, 0, none⟩) from t99] at h99
      clear t99
      have HK := Lib.hid (fun v_ w_ (h1_ : _) (h2_ : _) (h3_ : _) => hK v_ w_ h1_ h2_ h3_ (fun h_ => absurd h_ (by decide)))
      have HS := Lib.hid hS
      clear hK ham hdep hS hd
      refine go_guard 94 98 true rfl rfl h98 ?_
      obtain ⟨c0, c1, c2, c3⟩ := cellsK hA HS.out.1
      go_simp
      exact HK.out _ w (Below.refl _ _) HS.out rfl
    refine steps_cons (not_ch (by kernel_rfl) fun _n act w K hS hd ham hdep hK => ?_) ?_
    · skip
      obtain ⟨x98, h98, t98⟩ := hdep ⟨94, .guard⟩ (by simp) rfl 98 rfl
      rw [show x98 = .bool true from t98] at h98
      clear t98
      obtain ⟨x100, h100, t100⟩ := hdep ⟨96, .data⟩ (by simp) rfl 100 rfl
      rw [show x100 = .int .u64 8 from t100] at h100
      clear t100
      have HK := Lib.hid (fun v_ w_ (h1_ : _) (h2_ : _) (h3_ : _) => hK v_ w_ h1_ h2_ h3_ (fun h_ => absurd h_ (by decide)))
      have HS := Lib.hid hS
      clear hK ham hdep hS hd
      refine go_guard 94 98 true rfl rfl h98 ?_
      go_simp
      exact HK.out _ w (Below.refl _ _) HS.out rfl
    refine steps_cons (not_ch (by kernel_rfl) fun _n act w K hS hd ham hdep hK => ?_) ?_
    · skip
      obtain ⟨x98, h98, t98⟩ := hdep ⟨94, .data⟩ (by simp) rfl 98 rfl
      rw [show x98 = .bool true from t98] at h98
      clear t98
      obtain ⟨x101, h101, t101⟩ := hdep ⟨97, .data⟩ (by simp) rfl 101 rfl
      rw [show x101 = .bool true from t101] at h101
      clear t101
      have HK := Lib.hid (fun v_ w_ (h1_ : _) (h2_ : _) (h3_ : _) => hK v_ w_ h1_ h2_ h3_ (fun h_ => absurd h_ (by decide)))
      have HS := Lib.hid hS
      clear hK ham hdep hS hd
      refine go_plain rfl ?_
      go_simp
      exact HK.out _ w (Below.refl _ _) HS.out rfl
    refine steps_cons (not_ch (by kernel_rfl) fun _n act w K hS hd ham hdep hK => ?_) ?_
    · skip
      obtain ⟨x102, h102, t102⟩ := hdep ⟨98, .data⟩ (by simp) rfl 102 rfl
      rw [show x102 = .bool true from t102] at h102
      clear t102
      have HK := Lib.hid (fun v_ w_ (h1_ : _) (h2_ : _) (h3_ : _) => hK v_ w_ h1_ h2_ h3_ (fun h_ => absurd h_ (by decide)))
      have HS := Lib.hid hS
      clear hK ham hdep hS hd
      refine go_plain rfl ?_
      go_simp
      exact HK.out _ w (Below.refl _ _) HS.out rfl
    exact steps_done 100 (by omega)
  · intro vs a w' hF hty _ hS
    have hr := hF.mine 99 0 (by kernel_rfl) (by kernel_rfl)
    rw [show vs 99 = .bool true from hty 99 (by decide)] at hr
    have hd := hF.defers.trans d0
    have HX := Lib.hid (fb_call HBL.out hS.1)
    clear hF hty hS hS0 hA
    obtain ⟨tm, df⟩ := a
    obtain rfl : df = [] := hd
    go_wp2
    exact bodyPost_ret (by simp [results, Tryd.results21, go_sem, hr]) rfl ⟨rfl, HX.out⟩
end Go.Proofs.YtikoabnonmkhkaaDoor
