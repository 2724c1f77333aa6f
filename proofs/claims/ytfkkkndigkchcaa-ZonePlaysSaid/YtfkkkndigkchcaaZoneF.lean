/- The walk of zones' New. No condition. -/
import Derived.Test.YtfkkkndigkchcaaZoneC
import Derived.Laws.EntriesVeiled
namespace Go.Proofs.Ytfkkkndigkchcaa
open Go.RowKit
attribute [local irreducible] Calls

section
variable {w0 w : World} {T c : Nat} {col : Nat → Nat} {O : Nat → Prop} {cs : List Int} {hs : List (Int × Int)}
theorem arr_at (w : World) (t : TypeId) (vs : List Value) {B : Nat} (h : w.heap.size = B) : Arr (w.alloc (.cells vs.toArray t)) B t vs := by subst h; exact Arr.new w t vs
theorem znew_nil (w : World) (z s : Int) : Calls Try.prog 36 #[.pointer none, .int .i64 z, .int .i64 s] w fun e w' => e = .returned (.pointer none) ∧ Below w.heap.size w w' := by
  go_enter Try.func36, Try.ntmps36
  go_wp2
  go_ret
  exact ⟨rfl, fb_alloc (Below.refl _ _) _⟩
theorem znew_no (w : World) (a : Addr) (z s : Int) (hn : z < 1 ∨ 64 < z ∨ s < 1 ∨ 256 < s) : Calls Try.prog 36 #[.pointer (some a), .int .i64 z, .int .i64 s] w fun e w' => e = .returned (.pointer none) ∧ Below w.heap.size w w' := by
  by_cases h1 : z < 1
  · go_enter Try.func36, Try.ntmps36
    go_wp2
    go_ret
    exact ⟨rfl, fb_alloc (Below.refl _ _) _⟩
  · by_cases h2 : 64 < z
    · have h3 : 1 ≤ z := by omega
      clear hn h1
      go_enter Try.func36, Try.ntmps36
      go_wp2
      go_ret
      exact ⟨rfl, fb_alloc (Below.refl _ _) _⟩
    · by_cases h3 : s < 1
      · have h4 : 1 ≤ z := by omega
        have h5 : z ≤ 64 := by omega
        clear hn h1 h2
        go_enter Try.func36, Try.ntmps36
        go_wp2
        go_ret
        exact ⟨rfl, fb_alloc (Below.refl _ _) _⟩
      · have h4 : 1 ≤ z := by omega
        have h5 : z ≤ 64 := by omega
        have h6 : 1 ≤ s := by omega
        have h7 : 256 < s := by omega
        clear hn h1 h2 h3
        go_enter Try.func36, Try.ntmps36
        go_wp2
        go_ret
        exact ⟨rfl, fb_alloc (Below.refl _ _) _⟩
set_option maxRecDepth 100000 in
set_option maxHeartbeats 2000000 in
theorem znew_any (ht : TrS w0 w T O cs hs) (hoc : ∀ j, O j → col j = c) (zones slots : Nat) (hz1 : 1 ≤ zones) (hz2 : zones ≤ 64) (hs1 : 1 ≤ slots) (hs2 : slots ≤ 256) (hcs : cs.length ≤ 1000000) (hl : hs.length < 1000000) :
    Calls Try.prog 36 #[.pointer (some ⟨T, 0, none⟩), .int .i64 (zones : Int), .int .i64 (slots : Int)] w fun e w' => ∃ b q m, e = .returned (.pointer (some ⟨b.Z, 0, none⟩)) ∧ b.T = T ∧ ZSN w0 w w' col c b ⟨cs.length, zones, slots⟩ (hs.length + 1) q m ∧ ZRep ⟨cs.length, zones, slots⟩ (List.replicate zones []) m := by
  obtain ⟨P, hP⟩ : ∃ P : Nat, zones * slots = P := ⟨_, rfl⟩
  have hP2 : P ≤ 16384 := by rw [← hP]; exact Nat.le_trans (Nat.mul_le_mul hz2 hs2) (by decide)
  have hmul : (zones : Int) * (slots : Int) = (P : Int) := by rw [← Int.natCast_mul, hP]
  obtain ⟨f, hf⟩ : ∃ f : Nat, cs.length = f := ⟨_, rfl⟩
  have qa := Lib.hid (show ∀ o, Calls Try.prog 20 #[.pointer (some ⟨T, 0, none⟩), .int .i64 ((zones : Int) + P + 2 * slots)] (w.alloc o) fun e w' => e = .returned (.int .i64 (f : Int)) ∧ TrN w0 (w.alloc o) w' T O (cs ++ List.replicate ((zones : Int) + P + 2 * slots).toNat 0) (hs ++ [((-1 : Int), (zones : Int) + P + 2 * slots)]) from fun o => by
    have := tr_alloc (ht.below (fb_alloc (Below.refl _ _) o)) ((zones : Int) + P + 2 * slots) (by unfold canA; omega) (by omega)
    rw [hf] at this
    exact this)
  have HT := Lib.hid (And.intro ht (And.intro hoc hP))
  have hsz : (w.alloc (.cells #[.int .i64 (slots : Int)] 3)).heap.size = w.heap.size + 1 := by simp
  have hS0 : Arr (w.alloc (.cells #[.int .i64 (slots : Int)] 3)) w.heap.size 3 [.int .i64 (slots : Int)] := Arr.new w 3 [.int .i64 (slots : Int)]
  have HS0 := Lib.hid hS0
  have hfb : f ≤ 1000000 := by omega
  clear ht hoc hS0 hP
  go_enter Try.func36, Try.ntmps36
  go_upto_region 8 with (go_at_call 20; refine (qa.out _).mono ?_; rintro e w1 ⟨rfl, hN⟩; have hS := (hN.mv.block _ HS0.out.lt (fun ho => by have := (HT.out.1.base ho).2; omega)).trans HS0.out; have cS : w1.cell? ⟨w.heap.size, 0, none⟩ = some (.int .i64 (slots : Int)) := Arr.cell (t := 3) (vs := [.int .i64 (slots : Int)]) hS 0; have cS2 : ∀ o1 o2, ((w1.alloc o1).alloc o2).cell? ⟨w.heap.size, 0, none⟩ = some (.int .i64 (slots : Int)) := fun o1 o2 => Arr.cell (t := 3) (vs := [.int .i64 (slots : Int)]) (Arr.alloc (Arr.alloc hS o1) o2) 0; have cS3 : ∀ o1 o2 o3, (((w1.alloc o1).alloc o2).alloc o3).cell? ⟨w.heap.size, 0, none⟩ = some (.int .i64 (slots : Int)) := fun o1 o2 o3 => Arr.cell (t := 3) (vs := [.int .i64 (slots : Int)]) (Arr.alloc (Arr.alloc (Arr.alloc hS o1) o2) o3) 0)
  go_wp2
  go_ret
  have hP3 := HT.out.2.2
  obtain ⟨O1, hT1, hO1⟩ := hN.st
  have hw1 : w.heap.size + 1 ≤ w1.heap.size := by have := hN.mv.size; omega
  have hg : ((⟨cs.length, zones, slots⟩ : ZG).lists : Int) = f + zones := by show ((cs.length + zones : Nat) : Int) = _; omega
  have hg2 : ((⟨cs.length, zones, slots⟩ : ZG).homes : Int) = f + zones + P := by show ((cs.length + zones + zones * slots : Nat) : Int) = _; omega
  have hl1 : hs.length < 1000000 := hl
  generalize hW : World.alloc _ _ = W
  have hbel : Below w1.heap.size w1 W := by rw [← hW]; exact fb_alloc (fb_alloc (fb_alloc (fb_alloc (Below.refl _ _) _) _) _) _
  have hF : ZoF W ⟨w1.heap.size + 1 + 1 + 1, w1.heap.size, w1.heap.size + 1, w.heap.size, w1.heap.size + 1 + 1, T⟩ ⟨cs.length, zones, slots⟩ := by
    rw [← hW]
    refine ⟨?_, ?_, ?_, ?_, ?_⟩
    · exact arr_at _ _ [.pointer (some ⟨T, 0, none⟩), .int .i64 (zones : Int), .int .i64 (slots : Int), .func (.func 75) #[] #[.pointer (some ⟨w1.heap.size, 0, none⟩)], .func (.func 76) #[] #[.pointer (some ⟨w1.heap.size + 1, 0, none⟩), .pointer (some ⟨w.heap.size, 0, none⟩)], .func (.func 77) #[] #[.pointer (some ⟨w1.heap.size + 1 + 1, 0, none⟩)]] (by simp only [World.size_alloc])
    · show Arr _ w1.heap.size _ [.int .i64 (cs.length : Int)]
      rw [hf]
      exact (((arr_at w1 3 [.int .i64 (f : Int)] rfl).alloc _).alloc _).alloc _
    · show Arr _ (w1.heap.size + 1) _ [.int .i64 ((⟨cs.length, zones, slots⟩ : ZG).lists : Int)]
      rw [hg]
      exact ((arr_at _ 3 [.int .i64 ((f : Int) + zones)] (by simp only [World.size_alloc])).alloc _).alloc _
    · exact (((Arr.alloc (t := 3) (vs := [.int .i64 (slots : Int)]) hS _).alloc _).alloc _).alloc _
    · show Arr _ (w1.heap.size + 1 + 1) _ [.int .i64 ((⟨cs.length, zones, slots⟩ : ZG).homes : Int)]
      rw [hg2]
      exact (arr_at _ 3 [.int .i64 ((f : Int) + zones + P)] (by simp only [World.size_alloc])).alloc _
  have hn : ((zones : Int) + P + 2 * slots).toNat = zones + zones * slots + 2 * slots := by omega
  have hb : ∀ j, (⟨w1.heap.size + 1 + 1 + 1, w1.heap.size, w1.heap.size + 1, w.heap.size, w1.heap.size + 1 + 1, T⟩ : ZB).has j → w.heap.size ≤ j := fun j hj => by
    rcases hj with rfl | rfl | rfl | rfl | rfl <;> dsimp only <;> omega
  refine ⟨⟨w1.heap.size + 1 + 1 + 1, w1.heap.size, w1.heap.size + 1, w.heap.size, w1.heap.size + 1 + 1, T⟩, _, _, rfl, rfl, ⟨⟨O1, (cs ++ List.replicate ((zones : Int) + P + 2 * slots).toNat 0, hs ++ [((-1 : Int), (zones : Int) + P + 2 * slots)]), ⟨fun j hj => ?_, fun j hj => recol_ge (hb j hj), hT1.below hbel, fun j hj hO => ?_, hF, Holds.zero cs zones slots _ hn, ⟨hz1, hz2, hs1, hs2, by show cs.length ≤ _; omega⟩⟩, Hist.refl _, by simp⟩, ?_⟩, ZRep.zero _⟩
  · rcases hO1 j hj with h5 | h5
    · exact (recol_lt (HT.out.1.base h5).2).trans (HT.out.2.1 j h5)
    · exact recol_ge (by omega)
  · rcases hO1 j hO with h5 | h5
    · have := (HT.out.1.base h5).2
      have := hb j hj
      omega
    · have h6 := (hT1.base hO).2
      rcases hj with rfl | rfl | rfl | rfl | rfl <;> dsimp only at h5 h6 <;> omega
  · have hm : Moved w W O := ((Moved.of_below (fb_alloc (Below.refl _ _) _) O).trans hN.mv fun k hk => .inl hk).trans (Moved.of_below hbel O) fun k hk => .inl hk
    exact ⟨hm.os, hm.tape, hm.output, hm.size, fun j hj hne => hm.block j hj fun ho => hne (HT.out.2.1 j ho)⟩
end
end Go.Proofs.Ytfkkkndigkchcaa
