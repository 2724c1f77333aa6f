/- The walk of the document's Perm. No condition. -/
import Derived.Test.YtcehclagipdleaaDealD
import Derived.Laws.AppendOwn
import Derived.Maps.AppendAt
namespace Go.Proofs.Ytcehclagipdleaa
open Go.RowKit

theorem infoI : (Try.prog.info? 3).map (fun i => (i.zero, i.size, i.bytes)) = some (some (.int .i64 0), 1, 8) := by kernel_rfl
/-- k from the rest of the division. -/
theorem rem_k (d : Int) (i : Nat) : d.tmod ((i : Int) + 1) + (if d.tmod ((i : Int) + 1) < 0 then (i : Int) + 1 else 0) = (kOf d i : Nat) := by
  rw [kOf_cast]
  have h := left_eq d ((i : Int) + 1) (by omega)
  have h3 := Int.tmod_lt_of_pos d (b := (i : Int) + 1) (by omega)
  have h2 : -((i : Int) + 1) < d.tmod ((i : Int) + 1) := by
    by_cases h0 : d < 0
    · have := Int.tmod_lt_of_pos (-d) (b := (i : Int) + 1) (by omega)
      rw [Int.neg_tmod] at this; omega
    · have := Int.tmod_nonneg ((i : Int) + 1) (a := d) (by omega); omega
  rw [← h]
  split
  · rw [Int.emod_eq_of_lt (by omega) (by omega)]
  · rw [Int.add_emod_right, Int.emod_eq_of_lt (by omega) (by omega)]; omega

theorem permOf_nat (N : Nat) (h1 : 1 ≤ N) (h2 : N ≤ 4096) (ds : List Int) : permOf N ds = prm (N - 1) (ids N) ds ∧ usedOf N ds = min (N - 1) ds.length := by
  have hc : (1 : Int) ≤ (N : Int) ∧ (N : Int) ≤ 4096 := by omega
  unfold permOf usedOf
  rw [if_pos hc, if_pos hc]
  exact ⟨rfl, rfl⟩
set_option maxRecDepth 100000 in
set_option maxHeartbeats 4000000 in
theorem rperm_yes (N : Nat) (h1 : 1 ≤ N) (h2 : N ≤ 4096) (a : Option Addr) (n c : Nat) (ds : List Int) (w : World) (hI : Ints w w.heap.size (.slice a n c) ds) (hl : ds.length ≤ 1000000) :
    Calls Try.prog 9 #[.int .i64 (N : Int), .slice a n c] w fun e w' => ∃ v, e = .returned (.tuple #[v, .int .i64 (usedOf N ds : Nat)]) ∧ Ints w' w'.heap.size v (permOf N ds) ∧ Below w.heap.size w w' := by
  obtain ⟨i0, hi, hz0, hz1, hz2⟩ := info_parts infoI
  have hnl : n = ds.length := by
    rcases hI with ⟨rfl, _, _, e, _⟩ | ⟨b, o, c', e, _⟩
    · injection e
    · injection e
  subst hnl
  have HI := Lib.hid hI
  have HL := Lib.hid hl
  clear hI
  go_enter Try.func9, Try.ntmps9
  go_wp2
  go_loopw [6, 7] (fun v i wr => ∃ k : Nat, k ≤ N ∧ i = .int .i64 k ∧ IRow wr w.heap.size v (ids k) ∧ Below w.heap.size w wr) (fun _ i _ => N - (intOf i).toNat)
  case atStart => exact ⟨0, Nat.zero_le _, rfl, IRow.nil _ _, Below.refl _ _⟩
  case round =>
    obtain ⟨k, hk, rfl, hown, hbel⟩ := hrel
    by_cases hlt : k < N
    · have hkl : (ids k).length ≤ 4096 := by rw [ids_len]; omega
      go_wp2_with (at_builtin; refine wpList_append_own _ rfl _ _ 22 rfl w.heap.size 3 i0 (.int .i64 0) 1 8 Try.underlying22 hi hz0 hz1 hz2 rfl (by decide) _ _ _ rfl (hown.alloc _) ⟨wr.heap.size, 0, none⟩ 1 1 [.int .i64 k] rfl rfl (cell_one_new _ _ _) (by simp [Value.oneCell']) (by unfold maxLen; omega) (by omega) (by have := hbel.size; simp; omega) ?_; intro v' w1 hown' hgrow hfr')
      go_roundw
      case rel => exact ⟨k + 1, by omega, by go_num, by rw [ids_succ]; exact IRow.app hown', IRow.appBel hbel hown hgrow⟩
      case measure => simp [intOf]; omega
    · obtain rfl : N = k := by omega
      clear hlt hk
      obtain ⟨g, cap, rfl⟩ := hown.form (by rw [ids_len]; omega)
      have hgb := hown.base
      have hst : prm (N - 1) (ids N) (ds.drop 0) = permOf N ds ∧ min (0 + (N - 1)) ds.length = usedOf N ds := by
        obtain ⟨e1, e2⟩ := permOf_nat N h1 h2 ds
        rw [e1, e2]; simp
      have hlen : (ids N).length = N := ids_len N
      have HS := Lib.hid (And.intro hst (And.intro hlen hown))
      have HB := Lib.hid hbel
      clear hst hlen hown hbel
      go_wp2
      go_loopw [8, 9] (fun u i wx => ∃ (m uu : Nat) (l : List Int) (z : Int), m + 1 ≤ N ∧ z = (m : Int) ∧ i = .int .i64 z ∧ u = .int .i64 uu ∧ uu ≤ ds.length ∧
        Hid ((prm m l (ds.drop uu) = permOf N ds ∧ min (uu + m) ds.length = usedOf N ds) ∧ l.length = N) ∧ IRow wx w.heap.size (.slice (some ⟨g, 0, none⟩) (ids N).length cap) l ∧ Below w.heap.size w wx) (fun _ i _ => (intOf i).toNat)
      case atStart => exact ⟨N - 1, 0, ids N, _, by omega, by omega, rfl, rfl, Nat.zero_le _, ⟨HS.out.1, HS.out.2.1⟩, HS.out.2.2, HB.out⟩
      case round =>
        obtain ⟨m, uu, l, z, hm, hz, rfl, rfl, huu, hst, hown, hbel⟩ := hrel
        cases m with
        | zero =>
          obtain rfl : z = 0 := by omega
          obtain ⟨⟨e1, e2⟩, e3⟩ := hst.out
          have hu0 : uu = usedOf N ds := by omega
          have hprm : l = permOf N ds := e1
          have HU := Lib.hid (And.intro hu0 hprm)
          clear hz hst e1 e2 e3 hu0 hprm
          go_wp2
          go_ret2
          exact ⟨.slice (some ⟨g, 0, none⟩) (ids N).length cap, by rw [← HU.out.1]; rfl, by rw [← HU.out.2]; exact hown.ints (Nat.le_refl _), hbel⟩
        | succ m =>
          obtain rfl : z = (m : Int) + 1 := by omega
          obtain ⟨⟨e1, e2⟩, e3⟩ := hst.out
          have hkl := kOf_le (ds.getD uu 0) (m + 1)
          have hrk := rem_k (ds.getD uu 0) (m + 1)
          rw [prm, drop_head, List.tail_drop] at e1
          obtain ⟨k, hk⟩ : ∃ k, kOf (ds.getD uu 0) (m + 1) = k := ⟨_, rfl⟩
          rw [hk] at hkl hrk e1
          have hlen : l.length = N := e3
          have hi1 : m + 1 < l.length := by omega
          have hk1 : k < l.length := by omega
          have ci : wr.cell? ⟨g, m + 1, none⟩ = some (.int .i64 (l.getD (m + 1) 0)) := hown.cell hi1
          have ck : wr.cell? ⟨g, k, none⟩ = some (.int .i64 (l.getD k 0)) := hown.cell hk1
          have fi := hown.frozen (m + 1)
          have fk := hown.frozen k
          have hs2 := hown.set (m + 1) (l.getD k 0)
          have ck2 : (wr.setCell ⟨g, m + 1, none⟩ (.int .i64 (l.getD k 0))).cell? ⟨g, k, none⟩ = some (.int .i64 ((l.set (m + 1) (l.getD k 0)).getD k 0)) := hs2.cell (by rw [List.length_set]; exact hk1)
          have hset : IRow ((wr.setCell ⟨g, m + 1, none⟩ (.int .i64 (l.getD k 0))).setCell ⟨g, k, none⟩ (.int .i64 (l.getD (m + 1) 0))) w.heap.size (.slice (some ⟨g, 0, none⟩) (ids N).length cap) (swp l (m + 1) k) := hs2.set k (l.getD (m + 1) 0)
          obtain ⟨x, hx⟩ : ∃ x, l.getD (m + 1) 0 = x := ⟨_, rfl⟩
          obtain ⟨y, hy⟩ : ∃ y, l.getD k 0 = y := ⟨_, rfl⟩
          rw [hx] at ci hset
          rw [hy] at ck ck2 hset
          have HL2 := Lib.hid e3
          have hkN : (k : Int) < ((ids N).length : Nat) := by rw [ids_len]; omega
          have hiN : (m : Int) + 1 < ((ids N).length : Nat) := by rw [ids_len]; omega
          have hNI : (ids N).length ≤ 4096 := by rw [ids_len]; omega
          clear hs2 hx hy hlen e3 hst hz
          push_cast at hrk
          by_cases hu : uu < ds.length
          · have HP : Hid (prm m (swp l (m + 1) k) (ds.drop (uu + 1)) = permOf N ds ∧ min (uu + 1 + m) ds.length = usedOf N ds) := ⟨e1, by rw [← e2]; congr 1; omega⟩
            clear e1 e2
            rcases HI.out with ⟨h0, _⟩ | ⟨b, o, c', he, _, hbl, hc⟩
            · rw [h0] at hu; simp at hu
            · injection he with he _ _
              have hd : wr.cell? ⟨b, o + uu, none⟩ = some (.int .i64 (ds.getD uu 0)) := (hbel.cell (p := ⟨b, o + uu, none⟩) hbl).trans (hc uu hu)
              clear hc
              obtain ⟨d, hdd⟩ : ∃ d, ds.getD uu 0 = d := ⟨_, rfl⟩
              rw [hdd] at hd hrk
              subst he
              clear hdd hk
              by_cases hneg : d.tmod ((m : Int) + 1 + 1) < 0
              · rw [if_pos hneg] at hrk
                obtain ⟨r, hr⟩ : ∃ r, d.tmod ((m : Int) + 1 + 1) = r := ⟨_, rfl⟩
                rw [hr] at hrk hneg
                have hr2 : -5000 ≤ r := by omega
                have hrk' : r + ((m : Int) + 1) + 1 = (k : Int) := by omega
                clear hrk
                go_wp2
                go_roundw
                case rel => exact ⟨m, uu + 1, swp l (m + 1) k, _, by omega, rfl, by go_num, by first | rfl | go_num, by omega, ⟨HP.out, by rw [swp_len]; exact HL2.out⟩, hset, (hbel.setCell (by exact hgb.1) _).setCell (by exact hgb.1) _⟩
                case measure => simp [intOf] <;> omega
              · rw [if_neg hneg, Int.add_zero] at hrk
                clear hneg
                go_wp2
                go_roundw
                case rel => exact ⟨m, uu + 1, swp l (m + 1) k, _, by omega, rfl, by go_num, by first | rfl | go_num, by omega, ⟨HP.out, by rw [swp_len]; exact HL2.out⟩, hset, (hbel.setCell (by exact hgb.1) _).setCell (by exact hgb.1) _⟩
                case measure => simp [intOf] <;> omega
          · have HP : Hid (prm m (swp l (m + 1) k) (ds.drop uu) = permOf N ds ∧ min (uu + m) ds.length = usedOf N ds) := ⟨by rw [← e1, List.drop_eq_nil_of_le (show ds.length ≤ uu from by omega), List.drop_eq_nil_of_le (show ds.length ≤ uu + 1 from by omega)], by rw [← e2]; omega⟩
            have e4 : ds.getD uu 0 = 0 := by simp [List.getD_eq_getElem?_getD, List.getElem?_eq_none (Nat.le_of_not_lt hu)]
            have hk0 : k = 0 := by rw [e4] at hk; rw [← hk]; simp [kOf]
            subst hk0
            clear e1 e2 e4 hk hrk
            go_wp2
            go_roundw
            case rel => exact ⟨m, uu, swp l (m + 1) 0, _, by omega, rfl, by go_num, by first | rfl | go_num, by omega, ⟨HP.out, by rw [swp_len]; exact HL2.out⟩, hset, (hbel.setCell (by exact hgb.1) _).setCell (by exact hgb.1) _⟩
            case measure => simp [intOf] <;> omega
theorem rperm_no (n : Int) (h : ¬ (1 ≤ n ∧ n ≤ 4096)) (a : Option Addr) (k c : Nat) (w : World) :
    Calls Try.prog 9 #[.int .i64 n, .slice a k c] w fun e w' => e = .returned (.tuple #[.slice none 0 0, .int .i64 0]) ∧ Below w.heap.size w w' := by
  by_cases h1 : n < 1
  · go_enter Try.func9, Try.ntmps9
    go_wp2
    go_ret2
    exact ⟨rfl, Below.refl _ _⟩
  · have h2 : 4096 < n := by omega
    have h1' : 1 ≤ n := by omega
    clear h h1
    go_enter Try.func9, Try.ntmps9
    go_wp2
    go_ret2
    exact ⟨rfl, Below.refl _ _⟩
end Go.Proofs.Ytcehclagipdleaa
