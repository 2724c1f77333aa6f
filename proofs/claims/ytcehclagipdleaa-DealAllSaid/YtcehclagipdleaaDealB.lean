/- The contract of slices.Backward at a row of numbers. No condition. -/
import Derived.Test.YtcehclagipdleaaDealA
namespace Go.Proofs.Ytcehclagipdleaa
open Go.RowKit Go.Shelf
attribute [local go_sem] Oper.semAt_some

/-- From n - 1 down to 0. -/
def dns : Nat → List Nat
  | 0 => []
  | n + 1 => n :: dns n
/-- A place below n, and a number. -/
abbrev BX (n : Nat) := { p : Nat × Int // p.1 < n }
/-- The places that came. -/
def pls {n : Nat} (l : List (BX n)) : List Nat := l.map (·.1.1)
theorem dns_len (n : Nat) : (dns n).length = n := by
  induction n with
  | zero => rfl
  | succ n ih => simp [dns, ih]
/-- What the iterator reads: the slice in its box, the row behind it. -/
def bP (Bs B len : Nat) (W : World) : Prop := Boxed W Bs 22 (.slice (some ⟨B, 0, none⟩) len len) ∧ ∃ l : List Int, l.length = len ∧ Arr W B 3 (l.map (Value.int .i64))
theorem bP_onCells (Bs B len : Nat) : OnCells (bP Bs B len) := fun _ _ _ _ hl ho ⟨h1, l, h2, h3⟩ => ⟨Boxed.putObj hl ho h1, l, h2, Arr.putObj hl ho h3⟩

theorem back_any (a : Option Addr) (len cap : Nat) (w : World) :
    Calls Try.prog 15 #[.slice a len cap] w fun e w' => e = .returned (.func (.func 17) #[] #[.pointer (some ⟨w.heap.size, 0, none⟩)]) ∧ w.alloc (.cells #[.slice a len cap] 22) = w' := by
  go_enter Try.func15, Try.ntmps15
  go_wp2
  go_ret
  exact ⟨rfl, rfl⟩

set_option maxRecDepth 100000 in
set_option maxHeartbeats 2000000 in
theorem back1_in (F : Fence) (n : Nat) (h17 : F.fn 17) (hro : F.round = none) (hn : 1 ≤ n) (l Bs B len : Nat) (hlen : len ≤ 4096) (J Jx : List (BX len) → World → Prop)
    (hY : ∀ pre x W, J pre W → pre.length < len → YieldAt F (n - 1) Try.prog l #[.int .i64 (x.1.1 : Int), .int .i64 x.1.2] W fun e W' =>
      (e = .returned (.bool true) ∧ J (pre ++ [x]) W' ∧ KpOf (bP Bs B len) W W') ∨ (e = .returned (.bool false) ∧ Jx (pre ++ [x]) W'))
    (W : World) (hP : bP Bs B len W) (h0 : J [] W) :
    CallsIn F n Try.prog 17 #[.func (.yield l) #[] #[], .pointer (some ⟨Bs, 0, none⟩)] W fun e W' => (∃ v, e = .returned v) ∧
      ((∃ ys, pls ys = dns len ∧ J ys W') ∨ (∃ pre : List (BX len), True ∧ Jx pre W')) := by
  have hPc := hP.1.cell
  refine callsIn_of_wp Try.func17 rfl h17 ?_ hro
  simp only [Try.ntmps17, List.size_toArray, List.length_cons, List.length_nil, Nat.reduceAdd, Nat.reduceSub, Array.replicate_succ, Array.replicate_zero, List.push_toArray, List.append_toArray, List.nil_append, List.cons_append]
  gi_wp2
  gi_loopw [3] (fun i wr => ∃ (m : Nat) (z : Int) (pre : List (BX len)), m ≤ len ∧ z = (m : Int) - 1 ∧ i = .int .i64 z ∧ pls pre ++ dns m = dns len ∧ J pre wr ∧ bP Bs B len wr)
    (fun i _ => (intOf i + 1).toNat)
  case atStart => exact ⟨len, _, [], Nat.le_refl _, rfl, rfl, rfl, h0, hP⟩
  case round =>
    obtain ⟨m, z, pre, hm, hz, rfl, hpre, hJs, hPs⟩ := hrel
    have hpc := hPs.1.cell
    cases m with
    | zero =>
      obtain rfl : z = -1 := by omega
      have HPRE := Lib.hid hpre
      clear hz hpre hm
      gi_wp2
      go_end0
      exact ⟨⟨_, rfl⟩, .inl ⟨pre, by simpa [dns] using HPRE.out, hJs⟩⟩
    | succ m =>
      obtain rfl : z = (m : Int) := by omega
      have hplen : pre.length + (m + 1) = len := by
        have := congrArg List.length hpre
        simpa [pls, dns_len] using this
      obtain ⟨q, hq1, hq2⟩ := hPs.2
      have hcx : wr.cell? ⟨B, m, none⟩ = some (.int .i64 (q.getD m 0)) := hq2.int (by omega)
      obtain ⟨y, hy⟩ : ∃ y, q.getD m 0 = y := ⟨_, rfl⟩
      rw [hy] at hcx
      clear hy hq2 hq1
      have hpl : pre.length < len := by omega
      have hlt : m < len := by omega
      obtain ⟨fn, tmps, assign, body, hy, hR⟩ := hY pre ⟨(m, y), hlt⟩ wr hJs hpl
      dsimp only at hy
      clear hz
      have HPRE := Lib.hid hpre
      have HPL := Lib.hid hplen
      clear hpre hplen hpl
      gi_wp2
      refine hR.mono ?_
      rintro e W3 (⟨rfl, hJ3, hk3⟩ | ⟨rfl, hJx3⟩)
      · gi_wp2
        go_roundw
        case rel => exact ⟨m, _, _, by omega, rfl, rfl, by rw [← HPRE.out]; simp [pls, dns], hJ3, hk3 hPs⟩
        case measure => simp [intOf]
      · gi_wp2
        refine bodyPost_ret (results_none rfl _ _ _) rfl ?_
        exact ⟨⟨_, rfl⟩, .inr ⟨_, trivial, hJx3⟩⟩

theorem back_stops (F : Fence) (n : Nat) (h17 : F.fn 17) (hro : F.round = none) (hn : 1 ≤ n) (Bs B len : Nat) (hlen : len ≤ 4096) (w : World) (hP : bP Bs B len w) :
    SeqStopsK F n Try.prog 17 #[.pointer (some ⟨Bs, 0, none⟩)] (fun x : BX len => #[Value.int .i64 (x.1.1 : Int), Value.int .i64 x.1.2]) (KpOf (bP Bs B len)) (fun ys => pls ys = dns len) (fun _ => True) len w := fun l J Jx W hW _ _ hY h0 => by
  have hP' : bP Bs B len W := by
    obtain ⟨h1, q, h2, h3⟩ := hP
    exact ⟨(hW.block Bs h1.lt).trans h1, q, h2, h3.below hW h3.lt⟩
  exact back1_in F n h17 hro hn l Bs B len hlen J Jx hY W hP' h0
end Go.Proofs.Ytcehclagipdleaa
