/- The document's zones in memory; their readers. No condition. -/
import Derived.Test.YtfkkkndigkchcaaArenaR
import Derived.Test.YtfkkkndigkchcaaZoneH
import Derived.BigQuiet
namespace Go.Proofs.Ytfkkkndigkchcaa
open Go.RowKit
attribute [local irreducible] Calls

/-- The document's zones: at A, the row of rows is vals. -/
structure DZ (w : World) (base A : Nat) (sl : Nat) (lv : Value) (vals : List Value) (L : List (List Nat)) : Prop where
  a : Arr w A 117 [.int .i64 sl, lv]
  l : w.ownsRow base 34 1 lv vals.length vals
  n : vals.length = L.length
  e : ∀ j, j < L.length → IRow w base (vals.getD j (.slice none 0 0)) (ints (L.getD j []))
  hb : base ≤ A
structure ZOk (L : List (List Nat)) (sl : Nat) : Prop where
  n1 : 1 ≤ L.length
  n2 : L.length ≤ 64
  s2 : sl ≤ 256
  le : ∀ j : Nat, (L.getD j []).length ≤ 256
def dzB (A : Nat) (lv : Value) (vals : List Value) (j : Nat) : Prop := j = A ∨ lv.ownBlock = some j ∨ ∃ k, k < vals.length ∧ (vals.getD k (.slice none 0 0)).ownBlock = some j
section
variable {w w' : World} {base A sl : Nat} {lv : Value} {vals : List Value} {L : List (List Nat)}
theorem DZ.lt (h : DZ w base A sl lv vals L) {j : Nat} (hj : dzB A lv vals j) : base ≤ j ∧ j < w.heap.size := by
  rcases hj with rfl | hj | ⟨k, hk, hj⟩
  · exact ⟨h.hb, h.a.lt⟩
  · exact World.ownsRow.lt h.l j hj
  · exact World.ownsRow.lt (h.e k (by rw [← h.n]; exact hk)) j hj
theorem DZ.moved {S : Nat → Prop} (h : DZ w base A sl lv vals L) (hm : Moved w w' S) (hn : ∀ j, dzB A lv vals j → ¬ S j) : DZ w' base A sl lv vals L :=
  have hk : ∀ j, dzB A lv vals j → w'.heap[j]? = w.heap[j]? := fun j hj => hm.block j (h.lt hj).2 (hn j hj)
  ⟨(hk A (.inl rfl)).trans h.a, ownsRow_block h.l fun k e => hk k (.inr (.inl e)), h.n, fun j hj => ownsRow_block (h.e j hj) fun k e => hk k (.inr (.inr ⟨j, by rw [h.n]; exact hj, e⟩)), h.hb⟩
theorem DZ.below (h : DZ w base A sl lv vals L) (hb : Below w.heap.size w w') : DZ w' base A sl lv vals L := h.moved (Moved.of_below hb (fun _ => False)) fun _ _ h => h
theorem DZ.mono {b : Nat} (h : DZ w b A sl lv vals L) (hb : base ≤ b) : DZ w base A sl lv vals L :=
  ⟨h.a, own_mono' h.l hb, h.n, fun j hj => own_mono' (h.e j hj) hb, Nat.le_trans hb h.hb⟩
theorem DZ.lf (h : DZ w base A sl lv vals L) (ho : ZOk L sl) : ∃ B c, lv = .slice (some ⟨B, 0, none⟩) L.length c := by
  have h1 := h.l
  rw [h.n] at h1
  exact own_form h1 ho.n1
theorem DZ.rc {B n c : Nat} (h : DZ w base A sl (.slice (some ⟨B, 0, none⟩) n c) vals L) {j : Nat} (hj : j < L.length) : ∃ x c', vals.getD j (.slice none 0 0) = .slice x (L.getD j []).length c' ∧ w.cell? ⟨B, j, none⟩ = some (.slice x (L.getD j []).length c') := by
  obtain ⟨x, c', e⟩ := (h.e j hj).any
  rw [ints_length] at e
  refine ⟨x, c', e, ?_⟩
  have en : n = vals.length := by
    rcases h.l.2 with ⟨hv, _⟩ | ⟨_, _, _, hv, _⟩
    · injection hv with h1 _ _; cases h1
    · injection hv
  have hl := h.l
  rw [en] at hl
  rw [World.ownsRow.cellAt hl j (by rw [h.n]; omega), ← e, List.getD_eq_getElem?_getD]
  have : j < vals.length := by rw [h.n]; exact hj
  simp [this]
theorem DZ.num {B n c : Nat} (h : DZ w base A sl (.slice (some ⟨B, 0, none⟩) n c) vals L) {j i : Nat} (hj : j < L.length) (hi : i < (L.getD j []).length) : ∃ g c', w.cell? ⟨B, j, none⟩ = some (.slice (some ⟨g, 0, none⟩) (L.getD j []).length c') ∧ w.cell? ⟨g, i, none⟩ = some (.int .i64 ((L.getD j []).getD i 0 : Nat)) := by
  obtain ⟨g, c', e⟩ := (h.e j hj).form (by rw [ints_length]; omega)
  rw [ints_length] at e
  obtain ⟨x, c2, e2, hc⟩ := h.rc hj
  rw [e] at e2
  rw [← e2] at hc
  refine ⟨g, c', hc, ?_⟩
  have := h.e j hj
  rw [e] at this
  have := this.cell (j := i) (by rw [ints_length]; exact hi)
  rw [ints_get] at this
  exact this
theorem zcase (L : List (List Nat)) (z : Int) : z < 0 ∨ (L.length : Int) ≤ z ∨ ∃ j : Nat, j < L.length ∧ z = (j : Int) := by
  by_cases h0 : z < 0
  · exact .inl h0
  · by_cases h1 : (L.length : Int) ≤ z
    · exact .inr (.inl h1)
    · exact .inr (.inr ⟨z.toNat, by omega, by omega⟩)
theorem zget_no {z : Int} (hz : z < 0 ∨ (L.length : Int) ≤ z) : zget L z = [] := by
  unfold zget
  by_cases h0 : 0 ≤ z
  · rw [if_pos h0, List.getD_eq_getElem?_getD, List.getElem?_eq_none (by omega)]; rfl
  · rw [if_neg h0]
theorem dzone_no (h : DZ w base A sl lv vals L) (ho : ZOk L sl) (z : Int) (hz : z < 0 ∨ (L.length : Int) ≤ z) : Calls Try.prog 84 #[.pointer (some ⟨A, 0, none⟩), .int .i64 z] w fun e w' => e = .returned (.bool false) ∧ w = w' := by
  obtain ⟨B, c, rfl⟩ := h.lf ho
  have c1 : w.cell? ⟨A, 1, none⟩ = some (.slice (some ⟨B, 0, none⟩) L.length c) := h.a.cell 1
  have hn := ho.n2
  generalize L.length = n at c1 hz hn ⊢
  clear h ho
  rcases hz with hz | hz
  · go_enter Try.func84, Try.ntmps84
    go_wp2
    go_ret
    exact ⟨rfl, rfl⟩
  · go_enter Try.func84, Try.ntmps84
    go_wp2
    go_ret
    exact ⟨by show Ending.returned (Value.bool (decide (z < (n : Int)))) = _; rw [decide_eq_false (by omega)], rfl⟩
theorem dzone_yes (h : DZ w base A sl lv vals L) (ho : ZOk L sl) (z : Nat) (hz : z < L.length) : Calls Try.prog 84 #[.pointer (some ⟨A, 0, none⟩), .int .i64 (z : Int)] w fun e w' => e = .returned (.bool true) ∧ w = w' := by
  obtain ⟨B, c, rfl⟩ := h.lf ho
  have c1 : w.cell? ⟨A, 1, none⟩ = some (.slice (some ⟨B, 0, none⟩) L.length c) := h.a.cell 1
  have hn := ho.n2
  generalize L.length = n at c1 hz hn ⊢
  have z0 : (0 : Int) ≤ z := by omega
  have z1 : (z : Int) < n := by omega
  clear h ho
  go_enter Try.func84, Try.ntmps84
  go_wp2
  go_ret
  exact ⟨rfl, rfl⟩
theorem dzlist_any (h : DZ w base A sl lv vals L) (ho : ZOk L sl) (z : Int) : Calls Try.prog 86 #[.pointer (some ⟨A, 0, none⟩), .int .i64 z] w fun e w' => ∃ r, e = .returned r ∧ IRow w base r (ints (zget L z)) ∧ w = w' := by
  rcases zcase L z with hz | hz | ⟨j, hj, rfl⟩
  · rw [zget_no (.inl hz)]
    have hz2 := Lib.hid (dzone_no h ho z (.inl hz))
    clear h ho hz
    go_enter Try.func86, Try.ntmps86
    go_wp2_with (go_at_call 84; refine hz2.out.mono ?_; rintro e w' ⟨rfl, rfl⟩)
    go_ret
    exact ⟨_, rfl, IRow.nil _ _, rfl⟩
  · rw [zget_no (.inr hz)]
    have hz2 := Lib.hid (dzone_no h ho z (.inr hz))
    clear h ho hz
    go_enter Try.func86, Try.ntmps86
    go_wp2_with (go_at_call 84; refine hz2.out.mono ?_; rintro e w' ⟨rfl, rfl⟩)
    go_ret
    exact ⟨_, rfl, IRow.nil _ _, rfl⟩
  · rw [zget_nat]
    have hz2 := Lib.hid (dzone_yes h ho j hj)
    have HE := Lib.hid (h.e j hj)
    obtain ⟨B, c, rfl⟩ := h.lf ho
    have c1 : w.cell? ⟨A, 1, none⟩ = some (.slice (some ⟨B, 0, none⟩) L.length c) := h.a.cell 1
    obtain ⟨x, c', hv, c2⟩ := h.rc hj
    rw [hv] at HE
    have hn := ho.n2
    generalize (L.getD j []).length = m at c2 HE
    generalize L.length = n at c1 hj hn hz2
    have z0 : (0 : Int) ≤ j := by omega
    have z1 : (j : Int) < n := by omega
    clear h ho hv
    go_enter Try.func86, Try.ntmps86
    go_wp2_with (go_at_call 84; refine hz2.out.mono ?_; rintro e w' ⟨rfl, rfl⟩)
    go_ret
    exact ⟨_, rfl, HE.out, rfl⟩
theorem dzat_any (h : DZ w base A sl lv vals L) (ho : ZOk L sl) (z i : Int) : Calls Try.prog 71 #[.pointer (some ⟨A, 0, none⟩), .int .i64 z, .int .i64 i] w fun e w' => e = .returned (.tuple #[.int .i64 (zat L z i).1, .int .i64 (zat L z i).2]) ∧ w = w' := by
  have hno : ∀ z : Int, (z < 0 ∨ (L.length : Int) ≤ z) → zat L z i = (0, 5) := fun z hz => by
    unfold zat; rw [zget_no hz, if_neg (by simp)]
  rcases zcase L z with hz | hz | ⟨j, hj, rfl⟩
  · rw [hno z (.inl hz)]
    have hz2 := Lib.hid (dzone_no h ho z (.inl hz))
    clear h ho hz hno
    go_enter Try.func71, Try.ntmps71
    go_wp2_with (go_at_call 84; refine hz2.out.mono ?_; rintro e w' ⟨rfl, rfl⟩)
    go_ret2
    exact ⟨rfl, rfl⟩
  · rw [hno z (.inr hz)]
    have hz2 := Lib.hid (dzone_no h ho z (.inr hz))
    clear h ho hz hno
    go_enter Try.func71, Try.ntmps71
    go_wp2_with (go_at_call 84; refine hz2.out.mono ?_; rintro e w' ⟨rfl, rfl⟩)
    go_ret2
    exact ⟨rfl, rfl⟩
  · have hz2 := Lib.hid (dzone_yes h ho j hj)
    obtain ⟨B, c, rfl⟩ := h.lf ho
    have c1 : w.cell? ⟨A, 1, none⟩ = some (.slice (some ⟨B, 0, none⟩) L.length c) := h.a.cell 1
    have hn := ho.n2
    have hle := ho.le j
    unfold zat
    rw [zget_nat]
    by_cases hi : 0 ≤ i ∧ i < ((L.getD j []).length : Int)
    · rw [if_pos hi]
      obtain ⟨i', rfl⟩ := Int.eq_ofNat_of_zero_le hi.1
      rw [Int.toNat_natCast]
      obtain ⟨g, c', c2, c3⟩ := h.num hj (i := i') (by omega)
      generalize (L.getD j []).getD i' 0 = y at c3 ⊢
      generalize (L.getD j []).length = m at c2 hi hle
      generalize L.length = n at c1 hj hn hz2
      have z0 : (0 : Int) ≤ j := by omega
      have z1 : (j : Int) < n := by omega
      have z2 : (0 : Int) ≤ i' := by omega
      have z3 : (i' : Int) < m := by omega
      clear h ho hno hi
      go_enter Try.func71, Try.ntmps71
      go_wp2_with (go_at_call 84; refine hz2.out.mono ?_; rintro e w' ⟨rfl, rfl⟩)
      go_ret2
      exact ⟨rfl, rfl⟩
    · rw [if_neg hi]
      obtain ⟨x, c', hv, c2⟩ := h.rc hj
      generalize (L.getD j []).length = m at c2 hi hle
      generalize L.length = n at c1 hj hn hz2
      have z0 : (0 : Int) ≤ j := by omega
      have z1 : (j : Int) < n := by omega
      clear h ho hno hv
      by_cases hi0 : i < 0
      · clear hi
        go_enter Try.func71, Try.ntmps71
        go_wp2_with (go_at_call 84; refine hz2.out.mono ?_; rintro e w' ⟨rfl, rfl⟩)
        go_ret2
        exact ⟨rfl, rfl⟩
      · have hi1 : (m : Int) ≤ i := by omega
        clear hi
        go_enter Try.func71, Try.ntmps71
        go_wp2_with (go_at_call 84; refine hz2.out.mono ?_; rintro e w' ⟨rfl, rfl⟩)
        go_ret2
        exact ⟨rfl, rfl⟩
theorem mem_getD {l : List Nat} {t : Nat} (h : t ∈ l) : ∃ j, j < l.length ∧ l.getD j 0 = t := by
  obtain ⟨j, hj, e⟩ := List.getElem_of_mem h
  exact ⟨j, hj, by simp [List.getD_eq_getElem?_getD, hj, e]⟩
/-- What Where answers. -/
def DWh (L : List (List Nat)) (s : Int) (r : Value) : Prop := (∃ z j : Nat, j < (L.getD z []).length ∧ (((L.getD z []).getD j 0 : Nat) : Int) = s ∧ r = .tuple #[.int .i64 (z : Int), .int .i64 (j : Int), .bool true]) ∨ (zno L s ∧ r = .tuple #[.int .i64 0, .int .i64 0, .bool false])
theorem dzwhere_any (h : DZ w base A sl lv vals L) (ho : ZOk L sl) (s : Int) : Calls Try.prog 85 #[.pointer (some ⟨A, 0, none⟩), .int .i64 s] w fun e w' => ∃ r, e = .returned r ∧ DWh L s r ∧ w = w' := by
  obtain ⟨B, c, rfl⟩ := h.lf ho
  have c1 : w.cell? ⟨A, 1, none⟩ = some (.slice (some ⟨B, 0, none⟩) L.length c) := h.a.cell 1
  have hn := ho.n2
  obtain ⟨n, hnn⟩ : ∃ n, L.length = n := ⟨_, rfl⟩
  rw [hnn] at c1 hn
  have HX := Lib.hid (And.intro h (And.intro ho hnn))
  clear h ho hnn
  go_enter Try.func85, Try.ntmps85
  go_wp2
  go_loopw [7] (fun x wr => ∃ i : Nat, i ≤ n ∧ x = .int .i64 i ∧ Hid (∀ z t : Nat, z < i → t ∈ L.getD z [] → (t : Int) ≠ s) ∧ w = wr) (fun x _ => n - (intOf x).toNat)
  case atStart => exact ⟨0, Nat.zero_le _, rfl, Lib.hid (fun z t hz => by omega), rfl⟩
  case round =>
    obtain ⟨i, hil, rfl, hst, rfl⟩ := hrel
    by_cases hlt : i < n
    · obtain ⟨x, c', hv, c2⟩ := HX.out.1.rc (j := i) (by rw [HX.out.2.2]; exact hlt)
      obtain ⟨m, hm⟩ : ∃ m, (L.getD i []).length = m := ⟨_, rfl⟩
      have hle := HX.out.2.1.le i
      rw [hm] at c2 hle
      have HM := Lib.hid hm
      have i0 : (0 : Int) ≤ i := by omega
      have i1 : (i : Int) < n := by omega
      clear hv hm
      go_wp2
      go_loopw [8] (fun x8 wr => ∃ k : Nat, k ≤ m ∧ x8 = .int .i64 k ∧ Hid (∀ j : Nat, j < k → (((L.getD i []).getD j 0 : Nat) : Int) ≠ s) ∧ w = wr) (fun x8 _ => m - (intOf x8).toNat)
      case atStart => exact ⟨0, Nat.zero_le _, rfl, Lib.hid (fun j hj => by omega), rfl⟩
      case round =>
        obtain ⟨k, hkm, rfl, hin, rfl⟩ := hrel
        by_cases hlk : k < m
        · obtain ⟨g, c3, d2, d3⟩ := HX.out.1.num (j := i) (i := k) (by rw [HX.out.2.2]; exact hlt) (by rw [HM.out]; exact hlk)
          rw [HM.out] at d2
          rw [c2] at d2
          injection d2 with d2
          injection d2 with d2 _ _
          subst d2
          obtain ⟨y, hy⟩ : ∃ y, (((L.getD i []).getD k 0 : Nat) : Int) = y := ⟨_, rfl⟩
          rw [hy] at d3
          have HY := Lib.hid hy
          have k0 : (0 : Int) ≤ k := by omega
          have k1 : (k : Int) < m := by omega
          clear hy
          by_cases hys : y = s
          · subst hys
            go_wp2
            go_ret3
            exact ⟨_, rfl, .inl ⟨i, k, by rw [HM.out]; exact hlk, HY.out, rfl⟩, rfl⟩
          · have hB : (y == s) = false := by simp [hys]
            go_wp2
            go_roundw
            case rel =>
              exact ⟨k + 1, by omega, by go_num, Lib.hid (fun j hj => by
                by_cases e : j = k
                · subst e; rw [HY.out]; exact hys
                · exact hin.out j (by omega)), trivial⟩
            case measure => simp [intOf]; omega
        · obtain rfl : m = k := by omega
          clear hlk
          go_wp2
          go_roundw
          case rel =>
            exact ⟨i + 1, by omega, by go_num, Lib.hid (fun z t hz ht => by
              by_cases e : z = i
              · subst e
                obtain ⟨j, hj, e⟩ := mem_getD ht
                rw [← e]
                exact hin.out j (by rw [← HM.out]; exact hj)
              · exact hst.out z t (by omega) ht), trivial⟩
          case measure => simp [intOf]; omega
    · obtain rfl : n = i := by omega
      clear hlt
      go_wp2
      go_ret3
      refine ⟨_, rfl, .inr ⟨fun z t ht => hst.out z t (Nat.lt_of_not_le fun hz => ?_) ht, rfl⟩, rfl⟩
      rw [List.getD_eq_getElem?_getD, List.getElem?_eq_none (by rw [HX.out.2.2]; exact hz)] at ht
      simp at ht
end
end Go.Proofs.Ytfkkkndigkchcaa
