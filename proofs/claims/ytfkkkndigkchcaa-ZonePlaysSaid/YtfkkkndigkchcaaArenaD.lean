/- The walk of an arena's New. No condition. -/
import Derived.Test.YtfkkkndigkchcaaArenaC
import Derived.Laws.EntriesVeiled
namespace Go.Proofs.Ytfkkkndigkchcaa
open Go.RowKit
attribute [local irreducible] Calls

section
variable {w0 w : World} {T : Nat} {O : Nat → Prop} {cs : List Int} {hs : List (Int × Int)}
theorem new_nil (w : World) (n : Int) : Calls Try.prog 44 #[.pointer none, .int .i64 n] w fun e w' => e = .returned (.pointer none) ∧ w = w' := by
  go_enter Try.func44, Try.ntmps44
  go_wp2
  go_ret
  exact ⟨rfl, rfl⟩
theorem new_no (w : World) (a : Addr) (n : Int) (hn : n < 1 ∨ 256 < n) : Calls Try.prog 44 #[.pointer (some a), .int .i64 n] w fun e w' => e = .returned (.pointer none) ∧ w = w' := by
  rcases hn with hn | hn
  · go_enter Try.func44, Try.ntmps44
    go_wp2
    go_ret
    exact ⟨rfl, rfl⟩
  · have h1 : 1 ≤ n := by omega
    go_enter Try.func44, Try.ntmps44
    go_wp2
    go_ret
    exact ⟨rfl, rfl⟩
/-- The row of the free slots, laid. -/
def newL (p : List Int × List (Int × Int)) (base : Nat) : Nat → List Int × List (Int × Int)
  | 0 => p
  | i + 1 => setP (newL p base i) ((base : Int) + 2 + 2 * (i : Nat) + 1) ((i : Int) + 2)
def newP (cs : List Int) (hs : List (Int × Int)) (cap : Nat) : List Int × List (Int × Int) :=
  newL (setP (cs ++ List.replicate (2 * cap + 2) 0, hs ++ [((-1 : Int), ((2 * cap + 2 : Nat) : Int))]) cs.length 1) cs.length (cap - 1)
/-- Behind New. -/
structure NewAr (w0 w w' : World) (A Bb Ba T : Nat) (O : Nat → Prop) (base cap : Nat) (p : List Int × List (Int × Int)) : Prop where
  st : ∃ O', TrS w0 w' T O' p.1 p.2 ∧ ArO O' A Bb Ba ∧ ∀ k, O' k → O k ∨ w.heap.size ≤ k
  mv : Moved w w' O
  f : ArF w' A Bb Ba T base cap
  lo : w.heap.size ≤ A ∧ w.heap.size ≤ Bb ∧ w.heap.size ≤ Ba
theorem newL_len (p : List Int × List (Int × Int)) (base i : Nat) : (newL p base i).1.length = p.1.length ∧ (newL p base i).2.length ≤ p.2.length + i := by
  induction i with
  | zero => exact ⟨rfl, Nat.le_refl _⟩
  | succ i ih =>
    refine ⟨(setC_len _ _ _).trans ih.1, ?_⟩
    have := (setH_len (newL p base i).1 (newL p base i).2 ((base : Int) + 2 + 2 * (i : Nat) + 1) ((i : Int) + 2)).2
    have h2 : (newL p base (i + 1)).2 = setH (newL p base i).1 (newL p base i).2 ((base : Int) + 2 + 2 * (i : Nat) + 1) ((i : Int) + 2) := rfl
    rw [h2]; omega
set_option maxRecDepth 100000 in
set_option maxHeartbeats 2000000 in
theorem new_any (ht : TrS w0 w T O cs hs) (cap : Nat) (hc1 : 1 ≤ cap) (hc : cap ≤ 256) (hcan : cs.length + (2 * cap + 2) ≤ 1048576) (hl : hs.length < 1099511000000) :
    Calls Try.prog 44 #[.pointer (some ⟨T, 0, none⟩), .int .i64 (cap : Int)] w fun e w' => ∃ A Bb Ba, e = .returned (.pointer (some ⟨A, 0, none⟩)) ∧ NewAr w0 w w' A Bb Ba T O cs.length cap (newP cs hs cap) := by
  obtain ⟨base, hbase⟩ : ∃ base, cs.length = base := ⟨_, rfl⟩
  obtain ⟨p0, hp0⟩ : ∃ p0 : List Int × List (Int × Int), (cs ++ List.replicate (2 * cap + 2) 0, hs ++ [((-1 : Int), ((2 * cap + 2 : Nat) : Int))]) = p0 := ⟨_, rfl⟩
  have hp01 : p0.2.length = hs.length + 1 := by rw [← hp0]; simp
  have qa := Lib.hid (show Calls Try.prog 20 #[.pointer (some ⟨T, 0, none⟩), .int .i64 (2 * (cap : Int) + 2)] w fun e w' => e = .returned (.int .i64 (base : Int)) ∧ TrN w0 w w' T O p0.1 p0.2 from by
    have := tr_alloc ht (2 * (cap : Int) + 2) (by unfold canA; omega) (by omega)
    rw [show (2 * (cap : Int) + 2).toNat = 2 * cap + 2 by omega, hbase] at this
    rw [← hp0]
    exact this)
  have hbb : base ≤ 1048576 := by omega
  clear ht hcan
  go_enter Try.func44, Try.ntmps44
  go_upto_region 7 with (go_at_call 20; refine qa.out.mono ?_; rintro e w1 ⟨rfl, hN⟩)
  obtain ⟨O1, hT1, hO1⟩ := hN.st
  have hF : ArF (((w1.alloc (.cells #[.int .i64 (base : Int)] 3)).alloc (.cells #[.pointer (some ⟨T, 0, none⟩), .func (.func 81) #[] #[.pointer (some ⟨w1.heap.size, 0, none⟩)], .func (.func 82) #[] #[.pointer (some ⟨w1.heap.size + 1 + 1, 0, none⟩)], .int .i64 (base : Int), .int .i64 ((base : Int) + 1), .int .i64 (cap : Int)] 111)).alloc (.cells #[.pointer (some ⟨w1.heap.size + 1, 0, none⟩)] 56)) (w1.heap.size + 1) w1.heap.size (w1.heap.size + 1 + 1) T base cap := by
    refine ⟨?_, ?_, ?_⟩
    · have := Arr.new (w1.alloc (.cells #[.int .i64 (base : Int)] 3)) 111 [.pointer (some ⟨T, 0, none⟩), .func (.func 81) #[] #[.pointer (some ⟨w1.heap.size, 0, none⟩)], .func (.func 82) #[] #[.pointer (some ⟨w1.heap.size + 1 + 1, 0, none⟩)], .int .i64 (base : Int), .int .i64 ((base : Int) + 1), .int .i64 (cap : Int)]
      simp only [World.size_alloc] at this
      exact this.alloc _
    · exact ((Arr.new w1 3 [.int .i64 (base : Int)]).alloc _).alloc _
    · have := Arr.new ((w1.alloc (.cells #[.int .i64 (base : Int)] 3)).alloc (.cells #[.pointer (some ⟨T, 0, none⟩), .func (.func 81) #[] #[.pointer (some ⟨w1.heap.size, 0, none⟩)], .func (.func 82) #[] #[.pointer (some ⟨w1.heap.size + 1 + 1, 0, none⟩)], .int .i64 (base : Int), .int .i64 ((base : Int) + 1), .int .i64 (cap : Int)] 111)) 56 [.pointer (some ⟨w1.heap.size + 1, 0, none⟩)]
      simp only [World.size_alloc] at this
      exact this
  have hbel : Below w1.heap.size w1 (((w1.alloc (.cells #[.int .i64 (base : Int)] 3)).alloc (.cells #[.pointer (some ⟨T, 0, none⟩), .func (.func 81) #[] #[.pointer (some ⟨w1.heap.size, 0, none⟩)], .func (.func 82) #[] #[.pointer (some ⟨w1.heap.size + 1 + 1, 0, none⟩)], .int .i64 (base : Int), .int .i64 ((base : Int) + 1), .int .i64 (cap : Int)] 111)).alloc (.cells #[.pointer (some ⟨w1.heap.size + 1, 0, none⟩)] 56)) := fb_alloc (fb_alloc (fb_alloc (Below.refl _ _) _) _) _
  have hT2 := hT1.below hbel
  have hoo : ArO O1 (w1.heap.size + 1) w1.heap.size (w1.heap.size + 1 + 1) := ⟨fun h => by have := (hT1.base h).2; omega, fun h => by have := (hT1.base h).2; omega, fun h => by have := (hT1.base h).2; omega⟩
  have hlo : w.heap.size ≤ w1.heap.size := hN.mv.size
  have hmv : Moved w (((w1.alloc (.cells #[.int .i64 (base : Int)] 3)).alloc (.cells #[.pointer (some ⟨T, 0, none⟩), .func (.func 81) #[] #[.pointer (some ⟨w1.heap.size, 0, none⟩)], .func (.func 82) #[] #[.pointer (some ⟨w1.heap.size + 1 + 1, 0, none⟩)], .int .i64 (base : Int), .int .i64 ((base : Int) + 1), .int .i64 (cap : Int)] 111)).alloc (.cells #[.pointer (some ⟨w1.heap.size + 1, 0, none⟩)] 56)) O := hN.mv.trans (Moved.of_below hbel O) (fun k hk => .inl hk)
  generalize (((w1.alloc (.cells #[.int .i64 (base : Int)] 3)).alloc (.cells #[.pointer (some ⟨T, 0, none⟩), .func (.func 81) #[] #[.pointer (some ⟨w1.heap.size, 0, none⟩)], .func (.func 82) #[] #[.pointer (some ⟨w1.heap.size + 1 + 1, 0, none⟩)], .int .i64 (base : Int), .int .i64 ((base : Int) + 1), .int .i64 (cap : Int)] 111)).alloc (.cells #[.pointer (some ⟨w1.heap.size + 1, 0, none⟩)] 56)) = W at *
  obtain ⟨A, hA⟩ : ∃ A, w1.heap.size + 1 = A := ⟨_, rfl⟩
  obtain ⟨Ba, hBa⟩ : ∃ Ba, w1.heap.size + 1 + 1 = Ba := ⟨_, rfl⟩
  obtain ⟨Bb, hBb⟩ : ∃ Bb, w1.heap.size = Bb := ⟨_, rfl⟩
  have hlo3 : w.heap.size ≤ A ∧ w.heap.size ≤ Bb ∧ w.heap.size ≤ Ba := by omega
  rw [hBa] at hF hoo ⊢
  rw [hA] at hF hoo ⊢
  rw [hBb] at hF hoo ⊢
  clear hA hBa hBb hlo hN hT1 hbel
  have k0 : W.cell? ⟨Ba, 0, none⟩ = some (.pointer (some ⟨A, 0, none⟩)) := hF.c.cell 0
  have k3 : W.cell? ⟨A, 3, none⟩ = some (.int .i64 (base : Int)) := hF.a.cell 3
  obtain ⟨p1, hp1⟩ : ∃ p1, setP p0 base 1 = p1 := ⟨_, rfl⟩
  have hp11 : p1.2.length ≤ hs.length + 2 := by
    rw [← hp1]
    have := (setH_len p0.1 p0.2 (base : Int) 1).2
    show (setH p0.1 p0.2 (base : Int) 1).length ≤ _
    omega
  have qs := Lib.hid (show Calls Try.prog 22 #[.pointer (some ⟨T, 0, none⟩), .int .i64 (base : Int), .int .i64 1] W fun e w' => e = .returned (.tuple #[]) ∧ TrN w0 W w' T O1 p1.1 p1.2 from by
    have := tr_set hT2 (base : Int) 1 (by omega); rw [← hp1]; exact this)
  have HZ := Lib.hid (And.intro hF (And.intro hoo (And.intro hO1 hmv)))
  clear hF hoo hO1 hmv hT2
  go_wp2_with (go_at_call 22; refine qs.out.mono ?_; rintro e w2 ⟨rfl, hN⟩)
  have hst : ∃ O', TrS w0 w2 T O' (newL p1 base 0).1 (newL p1 base 0).2 ∧ ArO O' A Bb Ba ∧ (∀ k, O' k → O k ∨ w.heap.size ≤ k) ∧ Moved w w2 O ∧ ArF w2 A Bb Ba T base cap := by
    obtain ⟨O2, hT3, hO2⟩ := hN.st
    exact ⟨O2, hT3, HZ.out.2.1.next HZ.out.1 hO2, fun k hk => (hO2 k hk).elim (HZ.out.2.2.1 k) (fun h => .inr (Nat.le_trans HZ.out.2.2.2.size h)), HZ.out.2.2.2.trans hN.mv HZ.out.2.2.1, HZ.out.1.next hN HZ.out.2.1⟩
  have HS := Lib.hid hst
  clear hst hN HZ qs k0 k3
  go_loopw [7, 46] (fun _ x wr => ∃ i : Nat, i ≤ cap - 1 ∧ x = .int .i64 i ∧ Hid (∃ O', TrS w0 wr T O' (newL p1 base i).1 (newL p1 base i).2 ∧ ArO O' A Bb Ba ∧ (∀ k, O' k → O k ∨ w.heap.size ≤ k) ∧ Moved w wr O ∧ ArF wr A Bb Ba T base cap)) (fun _ x _ => cap - 1 - (intOf x).toNat)
  case atStart => exact ⟨0, Nat.zero_le _, rfl, HS⟩
  case round =>
    obtain ⟨i, hi, rfl, hst⟩ := hrel
    obtain ⟨O', hT4, hO4, hk4, hm4, hF4⟩ := hst.out
    by_cases hlt : i < cap - 1
    · have k0 : wr.cell? ⟨Ba, 0, none⟩ = some (.pointer (some ⟨A, 0, none⟩)) := hF4.c.cell 0
      have k2 : wr.cell? ⟨A, 2, none⟩ = some (.func (.func 82) #[] #[.pointer (some ⟨Ba, 0, none⟩)]) := hF4.a.cell 2
      have qr := Lib.hid (rows_any hF4 (i : Int) hbb (by omega) (by omega))
      have qs := Lib.hid (show Calls Try.prog 22 #[.pointer (some ⟨T, 0, none⟩), .int .i64 ((base : Int) + 2 + 2 * (i : Int) + 1), .int .i64 ((i : Int) + 2)] wr fun e w' => e = .returned (.tuple #[]) ∧ TrN w0 wr w' T O' (newL p1 base (i + 1)).1 (newL p1 base (i + 1)).2 from
        tr_set hT4 ((base : Int) + 2 + 2 * (i : Int) + 1) ((i : Int) + 2) (by have := (newL_len p1 base i).2; omega))
      have HZ := Lib.hid (And.intro hF4 (And.intro hO4 (And.intro hk4 hm4)))
      clear hst hT4 hO4 hk4 hm4 hF4
      have hc0 : (i : Int) < (cap : Int) - 1 := by omega
      go_wp2_with (first | (go_at_call 82; refine qr.out.mono ?_; rintro e w' ⟨rfl, rfl⟩) | (go_at_call 22; refine qs.out.mono ?_; rintro e w5 ⟨rfl, hN⟩))
      go_roundw
      case rel =>
        obtain ⟨O2, hT3, hO2⟩ := hN.st
        exact ⟨i + 1, by omega, by go_num, Lib.hid ⟨O2, hT3, HZ.out.2.1.next HZ.out.1 hO2, fun k hk => (hO2 k hk).elim (HZ.out.2.2.1 k) (fun h => .inr (Nat.le_trans HZ.out.2.2.2.size h)), HZ.out.2.2.2.trans hN.mv HZ.out.2.2.1, HZ.out.1.next hN HZ.out.2.1⟩⟩
      case measure => simp [intOf]; omega
    · obtain rfl : i = cap - 1 := by omega
      have k0 : wr.cell? ⟨Ba, 0, none⟩ = some (.pointer (some ⟨A, 0, none⟩)) := hF4.c.cell 0
      have HZ := Lib.hid (And.intro hT4 (And.intro hF4 (And.intro hO4 (And.intro hk4 hm4))))
      have hc0 : ¬ ((cap - 1 : Nat) : Int) < (cap : Int) - 1 := by omega
      clear hst hT4 hO4 hk4 hm4 hF4
      go_wp2
      go_ret
      refine ⟨A, rfl, Bb, Ba, ?_⟩
      have e : newP cs hs cap = newL p1 base (cap - 1) := by unfold newP; rw [hbase, hp0, hp1]
      rw [e]
      exact ⟨⟨O', HZ.out.1, HZ.out.2.2.1, HZ.out.2.2.2.1⟩, HZ.out.2.2.2.2, HZ.out.2.1, hlo3⟩
end
end Go.Proofs.Ytfkkkndigkchcaa
