/- The closed works of the trail laws. No condition. Small lemmas for the trail laws. No condition. More small lemmas for the trail laws. No condition. The walk of alike, of layer 7. No condition. The walk of cells: all of a trail. No condition. The walk of some: sets by small numbers. No condition. What TrailBack holds, by colours. No condition. -/
import Derived.Test.YtfkkkndigkchcaaTrailTr
import Derived.Test.YtfkkkndigkchcaaOpenA
import Derived.Test.YtfkkkndigkchcaaOpenN
import Derived.Test.YtfkkkndigkchcaaArr
import Derived.Laws.AppendOwn
import Derived.Test.YtfkkkndigkchcaaQTail
import Derived.Test.YtfkkkndigkchcaaRes
namespace Go.Proofs.Ytfkkkndigkchcaa
section
open Go.ChangeShapes Go.WideShapes Go.ChangeAt Go.RowKit

set_option maxRecDepth 100000 in
set_option maxHeartbeats 1000000 in
theorem tworks_any (w : World) : Calls Try.prog 32 #[] w fun e w' => e = .returned (.bool true) ∧ Below w.heap.size w w' := by
  go_enter Try.func32, Try.ntmps32
  go_wp2_with fail
  refine (tr_new _).mono ?_
  rintro e w1 ⟨rfl, hn⟩
  obtain ⟨t0, b0⟩ := hn w (Below.refl _ _)
  have Ht := Lib.hid t0
  clear hn t0 b0
  go_wp2_with fail
  refine (tr_alloc Ht.out 2 (by unfold canA; simp) (by simp)).mono ?_
  rintro e w2 ⟨he, hn⟩
  obtain rfl : e = .returned (.int .i64 0) := he
  obtain ⟨O2, t0, o0⟩ := hn.st
  have K0 : TrS w w2 w.heap.size O2 [0, 0] [((-1), 2)] := by exact t0
  clear Ht
  have Ht := Lib.hid K0
  clear hn t0 o0 K0
  go_wp2_with fail
  refine (tr_set Ht.out 1 5 (by simp)).mono ?_
  rintro e w3 ⟨rfl, hn⟩
  obtain ⟨O3, t0, o0⟩ := hn.st
  have K0 : TrS w w3 w.heap.size O3 [0, 5] [((-1), 2), (1, 0)] := by have q := t0; rwa [show setC [0, 0] 1 5 = [0, 5] from by decide, show setH [0, 0] [((-1), 2)] 1 5 = [((-1), 2), (1, 0)] from by decide] at q
  clear Ht
  have Ht := Lib.hid K0
  clear hn t0 o0 K0
  go_wp2_with fail
  refine (tr_mark Ht.out).mono ?_
  rintro e w' ⟨he, rfl⟩
  obtain rfl : e = .returned (.int .i64 2) := he
  go_wp2_with fail
  refine (tr_set Ht.out 1 7 (by simp)).mono ?_
  rintro e w4 ⟨rfl, hn⟩
  obtain ⟨O4, t0, o0⟩ := hn.st
  have K0 : TrS w w4 w.heap.size O4 [0, 7] [((-1), 2), (1, 0), (1, 5)] := by have q := t0; rwa [show setC [0, 5] 1 7 = [0, 7] from by decide, show setH [0, 5] [((-1), 2), (1, 0)] 1 7 = [((-1), 2), (1, 0), (1, 5)] from by decide] at q
  clear Ht
  have Ht := Lib.hid K0
  clear hn t0 o0 K0
  go_wp2_with fail
  refine (tr_get Ht.out 1).mono ?_
  rintro e w' ⟨he, rfl⟩
  rw [show getZ [0, 7] 1 = 7 from by decide] at he
  subst he
  go_wp2_with fail
  refine (tr_back Ht.out 2 (by simp) (by simp)).mono ?_
  rintro e w5 ⟨rfl, hn⟩
  obtain ⟨O5, t0, o0⟩ := hn.st
  have K0 : TrS w w5 w.heap.size O5 [0, 5] [((-1), 2), (1, 0)] := by have q := t0; rw [show was [0, 7] [((-1), 2), (1, 0), (1, 5)] 2 = [0, 5] from by decide] at q; exact q
  clear Ht
  have Ht := Lib.hid K0
  clear hn t0 o0 K0
  go_wp2_with fail
  refine (tr_get Ht.out 1).mono ?_
  rintro e w' ⟨he, rfl⟩
  rw [show getZ [0, 5] 1 = 5 from by decide] at he
  subst he
  go_wp2_with fail
  refine (tr_len Ht.out).mono ?_
  rintro e w' ⟨he, rfl⟩
  obtain rfl : e = .returned (.int .i64 2) := he
  go_wp2
  go_ret
  exact ⟨rfl, Ht.out.bel⟩
end
section
open Go.ChangeShapes Go.WideShapes Go.ChangeAt Go.RowKit
theorem u8_bd {x : Int} (h : (Lit.int .u8 x).wf = true) : 0 ≤ x ∧ x ≤ 255 := by simpa [Lit.wf, IntKind.min, IntKind.max, IntKind.signed, IntKind.bits] using h
theorem getZ_in {cs : List Int} {k : Nat} (h : k < cs.length) : getZ cs (k : Int) = cs.getD k 0 := by unfold getZ; rw [if_pos (by omega), Int.toNat_natCast]
theorem getZ_out {cs : List Int} {k : Int} (h : ¬ (0 ≤ k ∧ k < cs.length)) : getZ cs k = 0 := if_neg h
theorem getZ_setC {cs : List Int} {k : Nat} (h : k < cs.length) (v : Int) : getZ (setC cs (k : Int) v) (k : Int) = v := by
  have e : setC cs (k : Int) v = cs.set k v := by unfold setC; rw [if_pos (by omega), Int.toNat_natCast]
  rw [e, getZ_in (by simpa using h)]
  simp [List.getD_eq_getElem?_getD, h]
theorem setH_eq {cs : List Int} {hs : List (Int × Int)} {k v : Int} (h : getZ cs k = v) : setH cs hs k v = hs := if_neg (fun hh => hh.2 h)
theorem setH_ne {cs : List Int} {hs : List (Int × Int)} {k : Nat} {v : Int} (hk : k < cs.length) (h : getZ cs (k : Int) ≠ v) : (setH cs hs (k : Int) v).length = hs.length + 1 := by
  unfold setH; rw [if_pos ⟨by omega, h⟩]; simp
theorem setH_out {cs : List Int} {hs : List (Int × Int)} {k v : Int} (h : ¬ (0 ≤ k ∧ k < cs.length)) : setH cs hs k v = hs := if_neg (fun hh => h hh.1)
end
section
open Go.ChangeShapes Go.WideShapes Go.ChangeAt Go.RowKit
theorem was_setCH {cs : List Int} {hs : List (Int × Int)} (i v : Int) {m : Nat} (hm : m ≤ hs.length) : was (setC cs i v) (setH cs hs i v) m = was cs hs m ∧ (setH cs hs i v).take m = hs.take m := by
  unfold setC setH
  by_cases hi : 0 ≤ i ∧ i < cs.length
  · obtain ⟨n, rfl⟩ := Int.eq_ofNat_of_zero_le hi.1
    have hn : n < cs.length := by have := hi.2; omega
    rw [if_pos hi, Int.toNat_natCast, getZ_in hn]
    by_cases hv : cs.getD n 0 = v
    · rw [if_neg (fun h => h.2 hv)]
      have e3 : cs.set n v = cs := by
        rw [← hv]
        apply List.ext_getElem (by simp)
        intro j h1 h2
        by_cases e : n = j
        · subst e; simp [List.getD_eq_getElem?_getD, hn]
        · simp [e]
      rw [e3]; exact ⟨rfl, rfl⟩
    · rw [if_pos ⟨hi, hv⟩]
      exact ⟨was_set cs hs hn v m hm, List.take_append_of_le_length hm⟩
  · rw [if_neg hi, if_neg (fun h => hi h.1)]; exact ⟨rfl, rfl⟩
theorem getZ_setC_ne {cs : List Int} {i j : Int} (h : i ≠ j) (v : Int) : getZ (setC cs i v) j = getZ cs j := by
  unfold getZ
  rw [setC_len]
  by_cases hj : 0 ≤ j ∧ j < cs.length
  · rw [if_pos hj, if_pos hj]
    unfold setC
    by_cases hi : 0 ≤ i ∧ i < cs.length
    · rw [if_pos hi]
      have : ¬ (i.toNat = j.toNat) := by omega
      simp [List.getD_eq_getElem?_getD, this]
    · rw [if_neg hi]
  · rw [if_neg hj, if_neg hj]
theorem getZ_app_zeros {cs : List Int} {n : Nat} {j : Int} (h : (cs.length : Int) ≤ j) : getZ (cs ++ List.replicate n 0) j = 0 := by
  unfold getZ
  split
  · rename_i h1
    rw [List.getD_eq_getElem?_getD, List.getElem?_append_right (by omega), List.getElem?_replicate]
    split <;> rfl
  · rfl
end
section
open Go.RowKit

theorem list_ext_getD {a b : List Int} (hl : a.length = b.length) (h : ∀ j, j < a.length → a.getD j 0 = b.getD j 0) : a = b := by
  apply List.ext_getElem hl
  intro i h1 h2
  have := h i h1
  simpa [List.getD_eq_getElem?_getD, h1, h2] using this

/-- All numbers below the length, each once. -/
def Tot (l : List Int) : Prop := (∀ j, j < l.length → 0 ≤ l.getD j 0 ∧ l.getD j 0 < l.length) ∧ (∀ i j, i < l.length → j < l.length → l.getD i 0 = l.getD j 0 → i = j)
theorem Ints.parts {w : World} {n : Nat} {v : Value} {l : List Int} (h : Ints w n v l) : ∃ x c, v = .slice x l.length c ∧ (l = [] ∨ ∃ b o, x = some ⟨b, o, none⟩ ∧ b < n ∧ ∀ j, j < l.length → w.cell? ⟨b, o + j, none⟩ = some (.int .i64 (l.getD j 0))) := by
  rcases h with ⟨rfl, a, c, rfl, _⟩ | ⟨b, o, c, rfl, hl, h1, h2⟩
  · exact ⟨a, c, rfl, .inl rfl⟩
  · exact ⟨_, c, rfl, .inr ⟨b, o, rfl, h1, h2⟩⟩

/-- Are two lists alike? -/
def alk (a b : List Int) : Bool := decide (a = b)
theorem alk_same (a : List Int) : alk a a = true := by simp [alk]

theorem alike_len (x y : Option Addr) (n m c d : Nat) (h : n ≠ m) (w : World) : Calls Try.prog 35 #[.slice x n c, .slice y m d] w fun e w' => e = .returned (.bool false) ∧ Below w.heap.size w w' := by
  have hB : ((n : Int) != (m : Int)) = true := by simp; omega
  clear h
  go_enter Try.func35, Try.ntmps35
  go_wp2
  go_ret
  exact ⟨rfl, Below.refl _ _⟩
theorem alike_nil (x y : Option Addr) (c d : Nat) (w : World) : Calls Try.prog 35 #[.slice x 0 c, .slice y 0 d] w fun e w' => e = .returned (.bool true) ∧ Below w.heap.size w w' := by
  go_enter Try.func35, Try.ntmps35
  go_wp2
  refine wp_loop_rounds 1 ?_
  rw [rounds_succ]
  go_wp2
  go_ret
  exact ⟨rfl, Below.refl _ _⟩
set_option maxHeartbeats 1000000 in
theorem alike_cells (b o b' o' n c d : Nat) (l m : List Int) (w : World) (hl : l.length = n) (hm : m.length = n) (hn : n ≤ 1000000)
    (h1 : ∀ j, j < n → w.cell? ⟨b, o + j, none⟩ = some (.int .i64 (l.getD j 0))) (h2 : ∀ j, j < n → w.cell? ⟨b', o' + j, none⟩ = some (.int .i64 (m.getD j 0))) :
    Calls Try.prog 35 #[.slice (some ⟨b, o, none⟩) n c, .slice (some ⟨b', o', none⟩) n d] w fun e w' => e = .returned (.bool (alk l m)) ∧ Below w.heap.size w w' := by
  have H1 := Lib.hid h1
  have H2 := Lib.hid h2
  have HL := Lib.hid hl
  have HM := Lib.hid hm
  clear h1 h2 hl hm
  go_enter Try.func35, Try.ntmps35
  go_wp2
  go_loopw [5] (fun i wr => ∃ k nd : Nat, k ≤ n ∧ i = .int .i64 k ∧ (∀ j, j < k → l.getD j 0 = m.getD j 0) ∧ wr = w.drewN nd) (fun i _ => n - (intOf i).toNat)
  case atStart => exact ⟨0, 0, Nat.zero_le _, rfl, fun j hj => by omega, rfl⟩
  case round =>
    obtain ⟨k, nd, hk, rfl, heq, rfl⟩ := hrel
    have HE := Lib.hid heq
    clear heq
    by_cases hlt : k < n
    · have c1 : w.cell? ⟨b, o + k, none⟩ = some (.int .i64 (l.getD k 0)) := H1.out k hlt
      have c2 : w.cell? ⟨b', o' + k, none⟩ = some (.int .i64 (m.getD k 0)) := H2.out k hlt
      by_cases he : l.getD k 0 = m.getD k 0
      · have HEK := Lib.hid he
        obtain ⟨x, hx⟩ : ∃ x, m.getD k 0 = x := ⟨_, rfl⟩
        rw [he, hx] at c1
        rw [hx] at c2
        clear hx he
        have b0 : (0 : Int) ≤ k := by omega
        have b1 : (k : Int) < n := by omega
        go_wp2
        go_quiet (fail)
        go_wp2
        go_roundw
        case rel => exact ⟨k + 1, _, by omega, by go_num, fun j hj => by
          by_cases e : j = k
          · subst e; exact HEK.out
          · exact HE.out j (by omega), by first | rfl | simp⟩
        case measure => simp [intOf]; omega
      · have hne : alk l m = false := by
          unfold alk
          rw [decide_eq_false_iff_not]
          intro e; exact he (by rw [e])
        have HNE := Lib.hid hne
        obtain ⟨x, hx⟩ : ∃ x, l.getD k 0 = x := ⟨_, rfl⟩
        obtain ⟨y, hy⟩ : ∃ y, m.getD k 0 = y := ⟨_, rfl⟩
        rw [hx] at c1
        rw [hy] at c2
        rw [hx, hy] at he
        have hB : (x != y) = true := by simp [he]
        clear hx hy he hne
        have b0 : (0 : Int) ≤ k := by omega
        have b1 : (k : Int) < n := by omega
        go_wp2
        go_quiet (fail)
        go_wp2
        go_ret
        exact ⟨ret_b HNE.out.symm, bel_drewN (bel_drewN (Below.refl _ _) _) _⟩
    · obtain rfl : n = k := by omega
      clear hlt
      go_wp2
      go_ret
      exact ⟨ret_b (by
        unfold alk
        rw [eq_comm, decide_eq_true_iff]
        exact list_ext_getD (HL.out.trans HM.out.symm) (fun j hj => HE.out j (by rw [← HL.out]; exact hj))), bel_drewN (Below.refl _ _) _⟩

theorem alike_any (n : Nat) (u v : Value) (l m : List Int) (w : World) (h1 : Ints w n u l) (h2 : Ints w n v m) (hn : l.length ≤ 1000000) :
    Calls Try.prog 35 #[u, v] w fun e w' => e = .returned (.bool (alk l m)) ∧ Below w.heap.size w w' := by
  obtain ⟨x, c, rfl, p1⟩ := h1.parts
  obtain ⟨y, d, rfl, p2⟩ := h2.parts
  by_cases hl : l.length = m.length
  · rcases p1 with rfl | ⟨b, o, rfl, _, q1⟩
    · obtain rfl : m = [] := List.eq_nil_of_length_eq_zero hl.symm
      rw [alk_same]
      exact alike_nil _ _ _ _ w
    · rcases p2 with rfl | ⟨b', o', rfl, _, q2⟩
      · obtain rfl : l = [] := List.eq_nil_of_length_eq_zero hl
        rw [alk_same]
        exact alike_nil _ _ _ _ w
      · rw [← hl] at q2 ⊢
        exact alike_cells b o b' o' l.length c d l m w rfl hl.symm hn q1 q2
  · rw [show alk l m = false from by unfold alk; rw [decide_eq_false_iff_not]; intro e; exact hl (by rw [e])]
    exact alike_len _ _ _ _ _ _ hl w
end
section
open Go.RowKit

theorem infoI : (Try.prog.info? 3).map (fun i => (i.zero, i.size, i.bytes)) = some (some (.int .i64 0), 1, 8) := by kernel_rfl
theorem cells_any {w0 w : World} {T : Nat} {O : Nat → Prop} {cs : List Int} {hs : List (Int × Int)} (h : TrS w0 w T O cs hs) :
    Calls Try.prog 33 #[.pointer (some ⟨T, 0, none⟩)] w fun e w' => ∃ v, e = .returned v ∧ IRow w' w.heap.size v cs ∧ Below w.heap.size w w' := by
  obtain ⟨i0, hi, hz0, hz1, hz2⟩ := info_parts infoI
  have hcl := h.len
  have HT := Lib.hid h
  clear h
  obtain ⟨n, hn⟩ : ∃ n, cs.length = n := ⟨_, rfl⟩
  have HN := Lib.hid hn
  rw [hn] at hcl
  clear hn
  go_enter Try.func33, Try.ntmps33
  go_wp2
  go_loopw [3, 4] (fun v i wr => ∃ k : Nat, k ≤ n ∧ i = .int .i64 k ∧ IRow wr w.heap.size v (cs.take k) ∧ Below w.heap.size w wr) (fun _ i _ => n - (intOf i).toNat)
  case atStart => exact ⟨0, Nat.zero_le _, rfl, IRow.nil _ _, Below.refl _ _⟩
  case round =>
    obtain ⟨k, hk, rfl, hown, hbel⟩ := hrel
    have HW := Lib.hid (HT.out.below hbel)
    by_cases hlt : k < n
    · have hkl : (cs.take k).length ≤ 1048576 := by simp; omega
      have htk : cs.take (k + 1) = cs.take k ++ [cs.getD k 0] := by
        have := HN.out
        rw [List.take_succ_eq_append_getElem (by omega)]; simp [List.getD_eq_getElem?_getD, hlt, this]
      have hgz : getZ cs (k : Int) = cs.getD k 0 := getZ_in (by have := HN.out; omega)
      obtain ⟨x, hx⟩ : ∃ x, cs.getD k 0 = x := ⟨_, rfl⟩
      rw [hx] at htk hgz
      have HG := Lib.hid (And.intro htk hgz)
      clear htk hgz hx
      go_wp2_with fail
      refine (tr_len HW.out).mono ?_
      rintro e w' ⟨he, rfl⟩
      rw [HN.out] at he
      subst he
      go_wp2_with fail
      refine (tr_get HW.out (k : Int)).mono ?_
      rintro e w' ⟨he, rfl⟩
      rw [HG.out.2] at he
      subst he
      go_wp2_with (at_builtin; refine wpList_append_own _ rfl _ _ 34 rfl w.heap.size 3 i0 (.int .i64 0) 1 8 Try.underlying34 hi hz0 hz1 hz2 rfl (by decide) _ _ _ rfl (hown.alloc _) ⟨wr.heap.size, 0, none⟩ 1 1 [.int .i64 x] rfl rfl (cell_one_new _ _ _) (by simp [Value.oneCell']) (by unfold maxLen; omega) (by omega) (by have := hbel.size; simp; omega) ?_; intro v' w1 hown' hgrow hfr')
      go_roundw
      case rel => exact ⟨k + 1, by omega, by go_num, by rw [HG.out.1]; exact IRow.app hown', IRow.appBel hbel hown hgrow⟩
      case measure => simp [intOf]; omega
    · obtain rfl : n = k := by omega
      clear hlt hk
      go_wp2_with fail
      refine (tr_len HW.out).mono ?_
      rintro e w' ⟨he, rfl⟩
      rw [HN.out] at he
      subst he
      go_wp2
      go_ret
      refine ⟨_, rfl, ?_, hbel⟩
      have := HN.out
      rw [← this, List.take_length] at hown
      exact hown
end
section
open Go.RowKit
attribute [local go_sem] Oper.semAt_some

/-- One of the sets. -/
def smS (x y : Int) (s : List Int × List (Int × Int)) : List Int × List (Int × Int) :=
  if x % 16 = 15 ∧ s.1.length < 40 then (s.1 ++ List.replicate (1 + y % 3).toNat 0, s.2 ++ [((-1 : Int), 1 + y % 3)]) else (setC s.1 (x % 20) (y - 100), setH s.1 s.2 (x % 20) (y - 100))
def smR (F : Nat → Nat → Int) (s : List Int × List (Int × Int)) : Nat → List Int × List (Int × Int)
  | 0 => s
  | n + 1 => smS (F n 0) (F n 1) (smR F s n)
theorem smS_keeps (x y : Int) (s : List Int × List (Int × Int)) {m : Nat} (hm : m ≤ s.2.length) : was (smS x y s).1 (smS x y s).2 m = was s.1 s.2 m ∧ (smS x y s).2.take m = s.2.take m ∧ m ≤ (smS x y s).2.length ∧ (smS x y s).2.length ≤ s.2.length + 1 ∧ (s.1.length ≤ 50 → (smS x y s).1.length ≤ 50) := by
  unfold smS
  split
  · rename_i h
    obtain ⟨n, hn⟩ : ∃ n : Nat, 1 + y % 3 = (n : Int) := ⟨(1 + y % 3).toNat, by omega⟩
    rw [hn, Int.toNat_natCast]
    refine ⟨was_alloc _ _ _ _ hm, List.take_append_of_le_length hm, by simp; omega, by simp, fun _ => by simp; omega⟩
  · obtain ⟨h1, h2⟩ := was_setCH (cs := s.1) (hs := s.2) (x % 20) (y - 100) hm
    obtain ⟨h3, h4⟩ := setH_len s.1 s.2 (x % 20) (y - 100)
    exact ⟨h1, h2, Nat.le_trans hm h3, h4, fun h => by show (setC _ _ _).length ≤ 50; rw [setC_len]; exact h⟩
theorem smR_keeps (F : Nat → Nat → Int) (s : List Int × List (Int × Int)) {m : Nat} (hm : m ≤ s.2.length) : ∀ n, was (smR F s n).1 (smR F s n).2 m = was s.1 s.2 m ∧ (smR F s n).2.take m = s.2.take m ∧ m ≤ (smR F s n).2.length ∧ (smR F s n).2.length ≤ s.2.length + n ∧ (s.1.length ≤ 50 → (smR F s n).1.length ≤ 50) := by
  intro n
  induction n with
  | zero => exact ⟨rfl, rfl, hm, Nat.le_refl _, id⟩
  | succ n ih =>
    obtain ⟨h1, h2, h3, h4, h5⟩ := ih
    obtain ⟨k1, k2, k3, k4, k5⟩ := smS_keeps (F n 0) (F n 1) (smR F s n) h3
    exact ⟨k1.trans h1, k2.trans h2, k3, by show (smS _ _ _).2.length ≤ _; omega, fun h => k5 (h5 h)⟩
theorem TrN.then {w0 w w' w2 : World} {T : Nat} {O O' : Nat → Prop} {cs2 : List Int} {hs2 : List (Int × Int)} (h : Moved w w' O) (hf : ∀ k, O' k → O k ∨ w.heap.size ≤ k) (h2 : TrN w0 w' w2 T O' cs2 hs2) : TrN w0 w w2 T O cs2 hs2 := by
  obtain ⟨O2, t2, f2⟩ := h2.st
  refine ⟨⟨O2, t2, fun k hk => ?_⟩, h.trans h2.mv hf⟩
  rcases f2 k hk with h3 | h3
  · exact hf k h3
  · have := h.size; exact .inr (by omega)
theorem TrN.after {w0 w w' : World} {T : Nat} {O O' : Nat → Prop} {cs : List Int} {hs : List (Int × Int)} (hm : Moved w w' O) (hf : ∀ k, O' k → O k ∨ w.heap.size ≤ k) (h : TrS w0 w' T O' cs hs) : TrN w0 w w' T O cs hs := ⟨⟨O', h, hf⟩, hm⟩

set_option maxRecDepth 100000 in
set_option maxHeartbeats 4000000 in
theorem some_any {w0 w : World} {T : Nat} {O : Nat → Prop} {s0 : List Int × List (Int × Int)} (h : TrS w0 w T O s0.1 s0.2) (hc : s0.1.length ≤ 50) (hh : s0.2.length ≤ 1000) (a : Option Addr) (len cap n : Nat) (F : Nat → Nat → Int) (hR : Rws w n .u8 2 (.slice a len cap) len F) (hnb : n ≤ w0.heap.size) (hl : (len : Int) ≤ 9223372036854775807) :
    Calls Try.prog 34 #[.pointer (some ⟨T, 0, none⟩), .slice a len cap] w fun e w' => e = .returned (.tuple #[]) ∧ TrN w0 w w' T O (smR F s0 (min len 60)).1 (smR F s0 (min len 60)).2 := by
  have HT := Lib.hid (And.intro h (And.intro hc (And.intro hh (And.intro hR hnb))))
  clear h hc hh hR hnb
  go_enter Try.func34, Try.ntmps34
  go_wp2
  go_loopw [4] (fun i wr => ∃ (k : Nat) (Ok : Nat → Prop) (s : List Int × List (Int × Int)), k ≤ len ∧ k ≤ 60 ∧ i = .int .i64 k ∧ Hid (s = smR F s0 k ∧ TrS w0 wr T Ok s.1 s.2 ∧ s.1.length ≤ 50 ∧ s.2.length ≤ 1000 + k ∧ Moved w wr O ∧ ∀ q, Ok q → O q ∨ w.heap.size ≤ q)) (fun i _ => len - (intOf i).toNat)
  case atStart => exact ⟨0, O, s0, Nat.zero_le _, by omega, rfl, ⟨rfl, HT.out.1, HT.out.2.1, HT.out.2.2.1, Moved.refl _ _, fun q hq => .inl hq⟩⟩
  case round =>
    obtain ⟨k, Ok, s, hk, hk6, rfl, hst⟩ := hrel
    by_cases hlt : k < len
    · by_cases h60 : k < 60
      · obtain ⟨a', c', e, _, _, hcells⟩ := HT.out.2.2.2.1
        injection e with e1 e2 e3
        subst e1 e3
        obtain ⟨b, o, rfl, hb, hcells⟩ := hcells.resolve_left (by omega)
        have hbo : ¬ O b := fun hO => by
          have := (HT.out.1.base hO).1; have := HT.out.2.2.2.2; omega
        have hbl : b < w.heap.size := by have := HT.out.2.2.2.2; have := HT.out.1.bel.size; omega
        have hbw : wr.heap[b]? = w.heap[b]? := hst.out.2.2.2.2.1.block b hbl hbo
        have hx := hcells k hlt 0 (by omega)
        have hy := hcells k hlt 1 (by omega)
        have hnext : smR F s0 (k + 1) = smS (F k 0) (F k 1) s := by show smS _ _ _ = _; rw [← hst.out.1]
        obtain ⟨x, hxx⟩ : ∃ x, F k 0 = x := ⟨_, rfl⟩
        obtain ⟨y, hyy⟩ : ∃ y, F k 1 = y := ⟨_, rfl⟩
        rw [hxx] at hx hnext
        rw [hyy] at hy hnext
        have bx := u8_bd hx.2
        have by_ := u8_bd hy.2
        have cx : wr.cell? ⟨b, o + k * 2, none⟩ = some (.int .u8 x) := (World.cell?_of_block (a := ⟨b, o + k * 2, none⟩) hbw).trans hx.1
        have cy : wr.cell? ⟨b, o + k * 2 + 1, none⟩ = some (.int .u8 y) := (World.cell?_of_block (a := ⟨b, o + k * 2 + 1, none⟩) hbw).trans hy.1
        have x0 := bx.1
        have x1 := bx.2
        have y0 := by_.1
        have y1 := by_.2
        have HN := Lib.hid hnext
        have HL := Lib.hid h60
        clear hx hy bx by_ hxx hyy hcells hbw hb hnext hbo hbl
        have hi0 : (0 : Int) ≤ k := by omega
        have hi1 : (k : Int) < len := by omega
        obtain ⟨lc, hlc⟩ : ∃ lc, s.1.length = lc := ⟨_, rfl⟩
        by_cases hA : x % 16 = 15 ∧ lc < 40
        · obtain ⟨h15, h40⟩ := hA
          have hB1 : (x % 16 == 15) = true := by simp [h15]
          have hE : smS x y s = (s.1 ++ List.replicate (1 + y % 3).toNat 0, s.2 ++ [((-1 : Int), 1 + y % 3)]) := by
            unfold smS; rw [if_pos ⟨h15, by omega⟩]
          have hlen := smS_keeps x y s (Nat.zero_le _)
          rw [hE] at hlen
          have HE := Lib.hid (And.intro (HN.out.trans hE) (And.intro (hlen.2.2.2.2 hst.out.2.2.1) hlen.2.2.2.1))
          clear hE hlen
          have HLC := Lib.hid hlc
          clear hlc
          go_wp2_with fail
          refine (tr_len hst.out.2.1).mono ?_
          rintro e w' ⟨he, rfl⟩
          rw [HLC.out] at he
          subst he
          go_wp2_with fail
          refine (tr_alloc hst.out.2.1 (1 + y % 3) ⟨by omega, by have := HLC.out; omega⟩ (by have := hst.out.2.2.2.1; omega)).mono ?_
          rintro e w2 ⟨_, hn⟩
          have hn2 := TrN.then hst.out.2.2.2.2.1 hst.out.2.2.2.2.2 hn
          obtain ⟨O2, t0, o0⟩ := hn2.st
          have H2 := Lib.hid (And.intro t0 (And.intro hn2.mv o0))
          clear hn hn2 t0 o0
          go_wp2
          go_roundw
          case rel => exact ⟨k + 1, O2, _, by omega, by omega, by go_num, ⟨HE.out.1.symm, H2.out.1, HE.out.2.1, Nat.le_trans HE.out.2.2 (by have := hst.out.2.2.2.1; omega), H2.out.2.1, H2.out.2.2⟩⟩
          case measure => simp [intOf]; omega
        · have hE : smS x y s = (setC s.1 (x % 20) (y - 100), setH s.1 s.2 (x % 20) (y - 100)) := by
            unfold smS; rw [if_neg (by rw [hlc]; exact hA)]
          have hlen := smS_keeps x y s (Nat.zero_le _)
          rw [hE] at hlen
          have HE := Lib.hid (And.intro (HN.out.trans hE) (And.intro (hlen.2.2.2.2 hst.out.2.2.1) hlen.2.2.2.1))
          clear hE hlen
          have HLC := Lib.hid hlc
          clear hlc
          by_cases h15 : x % 16 = 15
          · have h40 : ¬ lc < 40 := fun h => hA ⟨h15, h⟩
            have hB1 : (x % 16 == 15) = true := by simp [h15]
            clear hA
            go_wp2_with fail
            refine (tr_len hst.out.2.1).mono ?_
            rintro e w' ⟨he, rfl⟩
            rw [HLC.out] at he
            subst he
            go_wp2
            refine wp_region_drewN_tail 15 (by kernel_rfl) (by kernel_rfl) ?_
            simp only [List.take_succ_cons, List.take_zero, List.drop_succ_cons, List.drop_zero]
            repeat (go_big_quiet_step (fail))
            refine wpQuiet_nil ?_
            intro _ hw'
            obtain ⟨nq, hw''⟩ := hw'
            subst hw''
            go_wp2_with fail
            refine (tr_set (hst.out.2.1.below (bel_drewN (Below.refl _ _) nq)) (x % 20) (y - 100) (by have := hst.out.2.2.2.1; omega)).mono ?_
            rintro e w2 ⟨rfl, hn⟩
            have hn2 := TrN.then (hst.out.2.2.2.2.1.trans (Moved.of_below (bel_drewN (Below.refl _ _) nq) (fun _ => False)) (fun _ h => h.elim)) hst.out.2.2.2.2.2 hn
            obtain ⟨O2, t0, o0⟩ := hn2.st
            have H2 := Lib.hid (And.intro t0 (And.intro hn2.mv o0))
            clear hn hn2 t0 o0
            go_wp2
            go_roundw
            case rel => exact ⟨k + 1, O2, _, by omega, by omega, by go_num, ⟨HE.out.1.symm, H2.out.1, HE.out.2.1, Nat.le_trans HE.out.2.2 (by have := hst.out.2.2.2.1; omega), H2.out.2.1, H2.out.2.2⟩⟩
            case measure => simp [intOf]; omega
          · have hB1 : (x % 16 == 15) = false := by simp [h15]
            clear hA
            go_wp2
            refine wp_region_drewN_tail 15 (by kernel_rfl) (by kernel_rfl) ?_
            simp only [List.take_succ_cons, List.take_zero, List.drop_succ_cons, List.drop_zero]
            repeat (go_big_quiet_step (fail))
            refine wpQuiet_nil ?_
            intro _ hw'
            obtain ⟨nq, hw''⟩ := hw'
            subst hw''
            go_wp2_with fail
            refine (tr_set (hst.out.2.1.below (bel_drewN (Below.refl _ _) nq)) (x % 20) (y - 100) (by have := hst.out.2.2.2.1; omega)).mono ?_
            rintro e w2 ⟨rfl, hn⟩
            have hn2 := TrN.then (hst.out.2.2.2.2.1.trans (Moved.of_below (bel_drewN (Below.refl _ _) nq) (fun _ => False)) (fun _ h => h.elim)) hst.out.2.2.2.2.2 hn
            obtain ⟨O2, t0, o0⟩ := hn2.st
            have H2 := Lib.hid (And.intro t0 (And.intro hn2.mv o0))
            clear hn hn2 t0 o0
            go_wp2
            go_roundw
            case rel => exact ⟨k + 1, O2, _, by omega, by omega, by go_num, ⟨HE.out.1.symm, H2.out.1, HE.out.2.1, Nat.le_trans HE.out.2.2 (by have := hst.out.2.2.2.1; omega), H2.out.2.1, H2.out.2.2⟩⟩
            case measure => simp [intOf]; omega
      · obtain rfl : k = 60 := by omega
        go_wp2
        go_end0
        have e : min len 60 = 60 := by omega
        refine ⟨rfl, ?_⟩
        rw [e, ← hst.out.1]
        exact TrN.after hst.out.2.2.2.2.1 hst.out.2.2.2.2.2 hst.out.2.1
    · obtain rfl : len = k := by omega
      clear hlt
      go_wp2
      go_end0
      have e : min len 60 = len := by omega
      refine ⟨rfl, ?_⟩
      rw [e, ← hst.out.1]
      exact TrN.after hst.out.2.2.2.2.1 hst.out.2.2.2.2.2 hst.out.2.1
end
section
open Go.RowKit

/-- An own row of the colour c. -/
def RowC (w : World) (col : Nat → Nat) (c base : Nat) (e : TypeId) (size : Nat) (v : Value) (n : Nat) (xs : List Value) : Prop := w.ownsRow base e size v n xs ∧ ∀ k, v.ownBlock = some k → col k = c
section
variable {w w' : World} {col : Nat → Nat} {c a base : Nat} {e : TypeId} {size n : Nat} {v : Value} {xs : List Value}
theorem RowC.nil (w : World) (col : Nat → Nat) (c base : Nat) (e : TypeId) (size : Nat) : RowC w col c base e size (.slice none 0 0) 0 [] := ⟨World.ownsRow_nil _ _ _ _, fun k h => by cases h⟩
theorem RowC.step {S : Nat → Prop} (h : RowC w col c base e size v n xs) (hm : Moved w w' S) (hS : ∀ k, S k → k < w.heap.size → col k = a) (hne : c ≠ a) : RowC w' (recol w.heap.size col a) c base e size v n xs := by
  refine ⟨ownsRow_block h.1 fun k hk => ?_, fun k hk => (recol_lt (World.ownsRow.lt h.1 k hk).2).trans (h.2 k hk)⟩
  have hl := (World.ownsRow.lt h.1 k hk).2
  exact hm.block k hl (fun hs => hne ((h.2 k hk).symm.trans (hS k hs hl)))
theorem RowC.made (a : Nat) (h : RowC w col c base e size v n xs) (hb : Below w.heap.size w w') : RowC w' (recol w.heap.size col a) c base e size v n xs :=
  ⟨ownsRow_block h.1 fun k hk => hb.block k (World.ownsRow.lt h.1 k hk).2, fun k hk => (recol_lt (World.ownsRow.lt h.1 k hk).2).trans (h.2 k hk)⟩
/-- A row that came of a call. -/
theorem RowC.fresh (c : Nat) {b0 : Nat} (h : w'.ownsRow w.heap.size e size v n xs) (hb : b0 ≤ w.heap.size) : RowC w' (recol w.heap.size col c) c b0 e size v n xs := by
  refine ⟨⟨h.1, ?_⟩, fun k hk => recol_ge (World.ownsRow.lt h k hk).1⟩
  rcases h.2 with hn | ⟨g, cap, cur, hv, hbs, rest⟩
  · exact .inl hn
  · exact .inr ⟨g, cap, cur, hv, by omega, rest⟩
/-- A row that grew. -/
theorem RowC.grew {v' : Value} {n' : Nat} {xs' : List Value} (h : RowC w col c base e size v n xs) (hw : w'.ownsRow base e size v' n' xs') (hf : ∀ k, v'.ownBlock = some k → v.ownBlock = some k ∨ w.heap.size ≤ k) : RowC w' (recol w.heap.size col c) c base e size v' n' xs' :=
  ⟨hw, fun k hk => (hf k hk).elim (fun h1 => (recol_lt (World.ownsRow.lt h.1 k h1).2).trans (h.2 k h1)) (fun h1 => recol_ge h1)⟩
theorem moved_grown {r : Option Nat} (h : w.grownBy w' r) : Moved w w' (fun k => r = some k) := Moved.of_grown h (fun _ e => e)
end

/-- What TrailBack holds; but for what has the colour x. -/
structure BK (x : Nat) (w0 w : World) (col : Nat → Nat) (Bx : Nat) (arr : List Value) (T U : Nat) (ts us : List Int × List (Int × Int)) (mv : Value) (lm : List Int) (sv : Value) (vals : List Value) (L : Nat → List Int) : Prop where
  bel : Below w0.heap.size w0 w
  box : x ≠ 6 → Arr w Bx 39 arr ∧ col Bx = 6
  t : x ≠ 1 → TrC w0 w col 1 T ts.1 ts.2
  u : x ≠ 2 → TrC w0 w col 2 U us.1 us.2
  m : x ≠ 3 → RowC w col 3 w0.heap.size 3 1 mv lm.length (lm.map (Value.int .i64))
  s : x ≠ 4 → RowC w col 4 w0.heap.size 34 1 sv vals.length vals
  e : x ≠ 5 → ∀ j, j < vals.length → RowC w col 5 w0.heap.size 3 1 (vals.getD j (.slice none 0 0)) (L j).length ((L j).map (Value.int .i64))
section
variable {w0 w w' : World} {col : Nat → Nat} {Bx : Nat} {arr : List Value} {T U : Nat} {ts us ts' us' : List Int × List (Int × Int)} {mv mv' : Value} {lm lm' : List Int} {sv sv' : Value} {vals : List Value} {L : Nat → List Int} {S : Nat → Prop}
/-- What has the colour a was written. -/
theorem BK.moved {a : Nat} (h : BK 0 w0 w col Bx arr T U ts us mv lm sv vals L) (hm : Moved w w' S) (hS : ∀ k, S k → k < w.heap.size → col k = a) (hb : ∀ k, S k → w0.heap.size ≤ k) : BK a w0 w' (recol w.heap.size col a) Bx arr T U ts us mv lm sv vals L := by
  have hbel : Below w0.heap.size w0 w' := h.bel.trans (hm.below hb h.bel.size)
  have z1 := h.box (by decide)
  refine ⟨hbel, fun hx => ?_, fun hx => (h.t (by decide)).step hm hbel hS (Ne.symm hx), fun hx => (h.u (by decide)).step hm hbel hS (Ne.symm hx), fun hx => (h.m (by decide)).step hm hS (Ne.symm hx), fun hx => (h.s (by decide)).step hm hS (Ne.symm hx), fun hx j hj => (h.e (by decide) j hj).step hm hS (Ne.symm hx)⟩
  exact ⟨(hm.block Bx z1.1.lt (fun hs => hx ((hS Bx hs z1.1.lt).symm.trans z1.2))).trans z1.1, (recol_lt z1.1.lt).trans z1.2⟩
/-- New memory, of the colour a. -/
theorem BK.made (a : Nat) (h : BK 0 w0 w col Bx arr T U ts us mv lm sv vals L) (hm : Below w.heap.size w w') : BK 0 w0 w' (recol w.heap.size col a) Bx arr T U ts us mv lm sv vals L := by
  have z1 := h.box (by decide)
  exact ⟨fb_call h.bel hm, fun _ => ⟨(hm.block Bx z1.1.lt).trans z1.1, (recol_lt z1.1.lt).trans z1.2⟩, fun _ => (h.t (by decide)).made a hm, fun _ => (h.u (by decide)).made a hm, fun _ => (h.m (by decide)).made a hm, fun _ => (h.s (by decide)).made a hm, fun _ j hj => (h.e (by decide) j hj).made a hm⟩
/-- A call wrote the first trail. -/
theorem BK.onT (h : BK 0 w0 w col Bx arr T U ts us mv lm sv vals L) {O : Nat → Prop} (hO : ∀ k, O k → col k = 1) (hS : TrS w0 w T O ts.1 ts.2) (hn : TrN w0 w w' T O ts'.1 ts'.2) : BK 0 w0 w' (recol w.heap.size col 1) Bx arr T U ts' us mv lm sv vals L := by
  have k := h.moved (a := 1) hn.mv (fun k hk _ => hO k hk) (fun k hk => (hS.base hk).1)
  exact ⟨k.bel, fun _ => k.box (by decide), fun _ => TrC.own hO hS hn, fun _ => k.u (by decide), fun _ => k.m (by decide), fun _ => k.s (by decide), fun _ => k.e (by decide)⟩
theorem BK.onU (h : BK 0 w0 w col Bx arr T U ts us mv lm sv vals L) {O : Nat → Prop} (hO : ∀ k, O k → col k = 2) (hS : TrS w0 w U O us.1 us.2) (hn : TrN w0 w w' U O us'.1 us'.2) : BK 0 w0 w' (recol w.heap.size col 2) Bx arr T U ts us' mv lm sv vals L := by
  have k := h.moved (a := 2) hn.mv (fun k hk _ => hO k hk) (fun k hk => (hS.base hk).1)
  exact ⟨k.bel, fun _ => k.box (by decide), fun _ => k.t (by decide), fun _ => TrC.own hO hS hn, fun _ => k.m (by decide), fun _ => k.s (by decide), fun _ => k.e (by decide)⟩
theorem row_base {w : World} {b : Nat} {e : TypeId} {size n : Nat} {v : Value} {xs : List Value} (h : w.ownsRow b e size v n xs) : ∀ k, v.ownBlock = some k → b ≤ k := fun k hk => (World.ownsRow.lt h k hk).1
/-- A mark more. -/
theorem BK.mark (h : BK 0 w0 w col Bx arr T U ts us mv lm sv vals L) {x : Int} (hw : w'.ownsRow w0.heap.size 3 1 mv' (lm.length + 1) (lm.map (Value.int .i64) ++ [.int .i64 x])) (hg : w.grownBy w' mv.ownBlock) (hf : ∀ k, mv'.ownBlock = some k → mv.ownBlock = some k ∨ w.heap.size ≤ k) :
    BK 0 w0 w' (recol w.heap.size col 3) Bx arr T U ts us mv' (lm ++ [x]) sv vals L := by
  have hm := h.m (by decide)
  have k := h.moved (a := 3) (moved_grown hg) (fun k hk _ => hm.2 k hk) (row_base hm.1)
  refine ⟨k.bel, fun _ => k.box (by decide), fun _ => k.t (by decide), fun _ => k.u (by decide), fun _ => ?_, fun _ => k.s (by decide), fun _ => k.e (by decide)⟩
  rw [List.length_append, List.length_singleton, List.map_append, List.map_singleton]
  exact hm.grew hw hf
/-- A list more. -/
theorem BK.snoc (h : BK 0 w0 w col Bx arr T U ts us mv lm sv vals L) {v : Value} (hv : RowC w col 5 w0.heap.size 3 1 v (L vals.length).length ((L vals.length).map (Value.int .i64))) (hw : w'.ownsRow w0.heap.size 34 1 sv' (vals.length + 1) (vals ++ [v])) (hg : w.grownBy w' sv.ownBlock) (hf : ∀ k, sv'.ownBlock = some k → sv.ownBlock = some k ∨ w.heap.size ≤ k) :
    BK 0 w0 w' (recol w.heap.size col 4) Bx arr T U ts us mv lm sv' (vals ++ [v]) L := by
  have hm := h.s (by decide)
  have k := h.moved (a := 4) (moved_grown hg) (fun k hk _ => hm.2 k hk) (row_base hm.1)
  refine ⟨k.bel, fun _ => k.box (by decide), fun _ => k.t (by decide), fun _ => k.u (by decide), fun _ => k.m (by decide), fun _ => ?_, fun _ j hj => ?_⟩
  · rw [List.length_append, List.length_singleton]; exact hm.grew hw hf
  · rw [List.length_append, List.length_singleton] at hj
    by_cases e : j < vals.length
    · have : (vals ++ [v]).getD j (.slice none 0 0) = vals.getD j (.slice none 0 0) := by simp [List.getD_eq_getElem?_getD, List.getElem?_append_left e]
      rw [this]; exact k.e (by decide) j e
    · obtain rfl : j = vals.length := by omega
      have : (vals ++ [v]).getD vals.length (.slice none 0 0) = v := by simp [List.getD_eq_getElem?_getD]
      rw [this]; exact hv.step (moved_grown hg) (fun k hk _ => hm.2 k hk) (by decide)
end
end
end Go.Proofs.Ytfkkkndigkchcaa
