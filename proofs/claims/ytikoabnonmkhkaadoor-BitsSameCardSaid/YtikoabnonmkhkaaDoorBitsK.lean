/- The walks of OnesCount64 and of a set's Len. -/
import Derived.Test.YtikoabnonmkhkaaDoorBitsJ
import Derived.Laws.Bits128
namespace Go.Proofs.YtikoabnonmkhkaaDoor
open Go.RowKit
attribute [local irreducible] bsum stg

theorem andU (a m : Nat) (ha : a < 2 ^ 64) (hm : m < 2 ^ 64) (z : Int) (hz : ((m : Nat) : Int) = z) : bits BinOp.and IntKind.u64 (a : Int) z = ((a &&& m : Nat) : Int) := by
  rw [← hz]; exact u64_and_nat a m (by omega) (by omega)
theorem wrapU (a : Nat) (z : Int) (hz : ((a : Nat) : Int) = z) (ha : a < 2 ^ 64) : IntKind.u64.wrap z = (a : Int) := by
  have hw : ∀ n, IntKind.u64.wrap n = n % 18446744073709551616 := fun n => by simp [IntKind.wrap, IntKind.bits, IntKind.signed]
  rw [hw, ← hz]; omega
theorem wrapI (a : Nat) (ha : a < 9223372036854775808) : IntKind.i64.wrap (a : Int) = (a : Int) := by
  simp only [IntKind.wrap, IntKind.bits, IntKind.signed]
  simp
  omega
theorem stage1 (x s : Nat) (hx : x < 2 ^ 64) (hs : stg1 8 x = s) : IntKind.u64.wrap (bits BinOp.and IntKind.u64 ((x : Int) / 2) 6148914691236517205 + bits BinOp.and IntKind.u64 (x : Int) 6148914691236517205) = (s : Int) ∧ s < 2 ^ 64 := by
  have l1 : (x / 2) &&& 6148914691236517205 ≤ 6148914691236517205 := Nat.and_le_right
  have l2 : x &&& 6148914691236517205 ≤ 6148914691236517205 := Nat.and_le_right
  unfold stg1 at hs
  rw [masks.1] at hs
  rw [show (x : Int) / 2 = ((x / 2 : Nat) : Int) by omega, andU (x / 2) 6148914691236517205 (by omega) (by decide) 6148914691236517205 rfl, andU x 6148914691236517205 (by omega) (by decide) 6148914691236517205 rfl]
  exact ⟨wrapU s _ (by rw [← hs]; rfl) (by omega), by omega⟩
theorem stage2 (x s : Nat) (hx : x < 2 ^ 64) (hs : stg2 8 x = s) : IntKind.u64.wrap (bits BinOp.and IntKind.u64 ((x : Int) / 4) 3689348814741910323 + bits BinOp.and IntKind.u64 (x : Int) 3689348814741910323) = (s : Int) ∧ s ≤ 7378697629483820646 := by
  have l1 : (x / 4) &&& 3689348814741910323 ≤ 3689348814741910323 := Nat.and_le_right
  have l2 : x &&& 3689348814741910323 ≤ 3689348814741910323 := Nat.and_le_right
  unfold stg2 at hs
  rw [masks.2.1] at hs
  rw [show (x : Int) / 4 = ((x / 4 : Nat) : Int) by omega, andU (x / 4) 3689348814741910323 (by omega) (by decide) 3689348814741910323 rfl, andU x 3689348814741910323 (by omega) (by decide) 3689348814741910323 rfl]
  exact ⟨wrapU s _ (by rw [← hs]; rfl) (by omega), by omega⟩
theorem stage3 (x s : Nat) (hx : x ≤ 7378697629483820646) (hs : stg3 8 x = s) : bits BinOp.and IntKind.u64 (IntKind.u64.wrap ((x : Int) / 16 + (x : Int))) 1085102592571150095 = (s : Int) ∧ s ≤ 1085102592571150095 := by
  have l1 : (x / 16 + x) &&& 1085102592571150095 ≤ 1085102592571150095 := Nat.and_le_right
  unfold stg3 at hs
  rw [masks.2.2] at hs
  rw [wrapU (x / 16 + x) _ (by omega) (by omega), andU (x / 16 + x) 1085102592571150095 (by omega) (by decide) 1085102592571150095 rfl, hs]
  exact ⟨rfl, by omega⟩
theorem addShift (x K s : Nat) (z : Int) (hz : ((K : Nat) : Int) = z) (h : x + x / K = s) (hs : s < 2 ^ 64) : IntKind.u64.wrap ((x : Int) + (x : Int) / z) = (s : Int) := by
  refine wrapU s _ ?_ hs
  rw [← hz, ← h, Int.natCast_add, Int.natCast_ediv]
theorem ones_any (x : Nat) (hx : x < 2 ^ 64) (w : World) : Calls Tryd.prog 34 #[.int .u64 x] w fun e w' => e = .returned (.int .i64 (bsum x 64 : Nat)) ∧ w = w' := by
  obtain ⟨s1, h1⟩ : ∃ s, stg1 8 x = s := ⟨_, rfl⟩
  obtain ⟨s2, h2⟩ : ∃ s, stg2 8 s1 = s := ⟨_, rfl⟩
  obtain ⟨s3, h3⟩ : ∃ s, stg3 8 s2 = s := ⟨_, rfl⟩
  obtain ⟨k1, b1⟩ := stage1 x s1 hx h1
  obtain ⟨k2, b2⟩ := stage2 s1 s2 b1 h2
  obtain ⟨k3, b3⟩ := stage3 s2 s3 b2 h3
  obtain ⟨v1, e1⟩ : ∃ v, s3 + s3 / 256 = v := ⟨_, rfl⟩
  obtain ⟨v2, e2⟩ : ∃ v, v1 + v1 / 65536 = v := ⟨_, rfl⟩
  obtain ⟨v3, e3⟩ : ∃ v, v2 + v2 / 4294967296 = v := ⟨_, rfl⟩
  have c1 : v1 ≤ 2170205185142300190 := by omega
  have c2 : v2 ≤ 4340410370284600380 := by omega
  have c3 : v3 ≤ 8680820740569200760 := by omega
  have f1 := addShift s3 256 v1 256 rfl e1 (by omega)
  have f2 := addShift v1 65536 v2 65536 rfl e2 (by omega)
  have f3 := addShift v2 4294967296 v3 4294967296 rfl e3 (by omega)
  have f4 := wrapI v3 (by omega)
  have hfin : v3 % 128 = bsum x 64 := by
    rw [← stg_eight x, ← e3, ← e2, ← e1, ← h3, ← h2, ← h1]
    unfold stg foldW
    rfl
  have HF := Lib.hid hfin
  clear hfin e1 e2 e3 c1 c2 c3 b1 b2 b3 h1 h2 h3
  go_enter Tryd.func34, Tryd.ntmps34
  go_wp2
  go_ret
  refine ⟨?_, rfl⟩
  show Ending.returned (.int .i64 (bits BinOp.and IntKind.i64 (v3 : Int) 127)) = _
  rw [i64_and127, ← HF.out, Int.natCast_emod]
  rfl
end Go.Proofs.YtikoabnonmkhkaaDoor
