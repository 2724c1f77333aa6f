/- Walks of the document's answer for sets: Of, Has, Next, Same. -/
import Derived.Test.YtikoabnonmkhkaaDoorBitsC
namespace Go.Proofs.YtikoabnonmkhkaaDoor
open Go.RowKit

/-- Places as numbers. -/
def zl (L : List Nat) : List Int := L.map (fun n : Nat => (n : Int))
theorem zl_len (L : List Nat) : (zl L).length = L.length := by simp [zl]
theorem zl_app (L M : List Nat) : zl (L ++ M) = zl L ++ zl M := by simp [zl]
theorem zl_get (L : List Nat) (k : Nat) : (zl L).getD k 0 = ((L.getD k 0 : Nat) : Int) := by
  simp only [zl, List.getD_eq_getElem?_getD, List.getElem?_map]
  cases L[k]? <;> simp
theorem infoI : (Tryd.prog.info? 3).map (fun i => (i.zero, i.size, i.bytes)) = some (some (.int .i64 0), 1, 8) := by kernel_rfl
/-- A list that came in, where it has a place: its form. -/
theorem ints_cell {w : World} {n : Nat} {v : Value} {L : List Nat} (h : Ints w n v (zl L)) {k : Nat} (hk : k < L.length) : ∃ b o c, v = .slice (some ⟨b, o, none⟩) L.length c ∧ b < n ∧ ∀ j, j < L.length → w.cell? ⟨b, o + j, none⟩ = some (.int .i64 ((L.getD j 0 : Nat) : Int)) := by
  rcases h with ⟨h, _⟩ | ⟨b, o, c, e, hl, h1, h2⟩
  · have := congrArg List.length h; rw [zl_len] at this; simp at this; subst this; simp at hk
  · rw [zl_len] at e h2
    exact ⟨b, o, c, e, h1, fun j hj => by rw [h2 j hj, zl_get]⟩
theorem ints_form {w : World} {n : Nat} {v : Value} {L : List Nat} (h : Ints w n v (zl L)) : ∃ a c, v = .slice a L.length c := by
  rcases h with ⟨h, a, c, e, _⟩ | ⟨b, o, c, e, _⟩
  · have := congrArg List.length h; rw [zl_len] at this; simp at this; subst this; exact ⟨a, c, e⟩
  · rw [zl_len] at e; exact ⟨_, c, e⟩
set_option maxHeartbeats 2000000 in
set_option maxRecDepth 100000 in
theorem rof_any {S : List Nat} (h : wfB S) (w : World) : Calls Tryd.prog 8 #[svL S] w fun e w' => ∃ v, e = .returned v ∧ Ints w' w'.heap.size v (zl (lst S)) ∧ Below w.heap.size w w' := by
  obtain ⟨i0, hi, hz0, hz1, hz2⟩ := info_parts infoI
  obtain ⟨a, b, c, d, rfl, h1, h2, h3, h4⟩ := wf_form h
  show Calls Tryd.prog 8 #[sv a b c d] w _
  unfold sv
  have HA0 : Hid (Arr (w.alloc (.cells #[.int .u64 a, .int .u64 b, .int .u64 c, .int .u64 d] 23)) w.heap.size 23 [.int .u64 a, .int .u64 b, .int .u64 c, .int .u64 d]) := Arr.new w 23 [.int .u64 a, .int .u64 b, .int .u64 c, .int .u64 d]
  go_enter Tryd.func8, Tryd.ntmps8
  go_wp2
  go_loopw [4, 3] (fun i v wr => ∃ n : Nat, n ≤ 256 ∧ i = .int .i64 n ∧ IRow wr (w.heap.size + 1) v (zl (lstTo [a, b, c, d] n)) ∧ Below w.heap.size w wr ∧ Arr wr w.heap.size 23 [.int .u64 a, .int .u64 b, .int .u64 c, .int .u64 d]  ) (fun i _ _ => 256 - (intOf i).toNat)
  case atStart => exact ⟨0, by omega, rfl, IRow.nil _ _, fb_alloc (Below.refl _ _) _, HA0.out⟩
  case round =>
    obtain ⟨n, hn, rfl, hown, hbel, hA⟩ := hrel
    clear HA0
    by_cases hlt : n < 256
    · obtain ⟨q, hq⟩ : ∃ q, n / 64 = q := ⟨_, rfl⟩
      obtain ⟨r, hr⟩ : ∃ r, n % 64 = r := ⟨_, rfl⟩
      have hq' : (n : Int) / 64 = (q : Int) := by omega
      have hr' : (n : Int) % 64 = (r : Int) := by omega
      have hr64 : r < 64 := by omega
      have hqs : q = 0 ∨ q = 1 ∨ q = 2 ∨ q = 3 := by omega
      obtain ⟨x, hx⟩ : ∃ x, [a, b, c, d].getD q 0 = x := ⟨_, rfl⟩
      have hx64 : x < 2 ^ 64 := by rw [← hx]; rcases hqs with rfl | rfl | rfl | rfl <;> assumption
      have hhas : hasB [a, b, c, d] n = x.testBit r := by unfold hasB; rw [hq, hr, hx]
      have key : (bits BinOp.and IntKind.u64 ((x : Int) / 2 ^ r) 1 == 1) = x.testBit r := by
        rw [show (x : Int) / 2 ^ r = ((x / 2 ^ r : Nat) : Int) by simp, and_one _ (Nat.lt_of_le_of_lt (Nat.div_le_self _ _) hx64), Nat.testBit_eq_decide_div_mod_eq]
      have hc : wr.cell? ⟨w.heap.size, q, none⟩ = some (.int .u64 x) := by
        rw [hA.cell q, ← hx]
        rcases hqs with rfl | rfl | rfl | rfl <;> rfl
      have hls := lstTo_succ [a, b, c, d] n
      rw [hhas] at hls
      have hll := lst_len [a, b, c, d] n
      obtain ⟨l, hl⟩ : ∃ l, lstTo [a, b, c, d] n = l := ⟨_, rfl⟩
      rw [hl] at hls hll hown
      have hzl := zl_len l
      have hq4 : (q : Int) < 4 := by omega
      have hq0 : (0 : Int) ≤ q := by omega
      clear hq hr hx hqs hhas
      by_cases ht : x.testBit r = true
      · rw [ht] at key hls
        rw [if_pos rfl] at hls
        have HL := Lib.hid (And.intro hls (And.intro hbel hA))
        have hzl' : (zl l).length ≤ 256 := by omega
        clear ht hls hzl hl hbel hA
        go_wp2_with (at_builtin; refine wpList_append_own _ rfl _ _ 25 rfl (w.heap.size + 1) 3 i0 (.int .i64 0) 1 8 Tryd.underlying25 hi hz0 hz1 hz2 rfl (by decide) _ _ _ rfl (hown.alloc _) ⟨wr.heap.size, 0, none⟩ 1 1 [.int .i64 n] rfl rfl (cell_one_new _ _ _) (by simp [Value.oneCell']) (by unfold maxLen; omega) (by omega) (by have := HL.out.2.2.lt; simp; omega) ?_; intro v' w1 hown' hgrow hfr')
        go_roundw
        case rel =>
          refine ⟨n + 1, by omega, by go_num, ?_, (fb_alloc HL.out.2.1 _).grown hgrow (fb_alloc HL.out.2.1 _).size (fun k e => Nat.le_of_succ_le (World.ownsRow.lt hown k e).1), ?_⟩
          · rw [HL.out.1, zl_app]; exact IRow.app hown'
          · exact (HL.out.2.2.alloc _).kept hgrow (fun e => by have := (World.ownsRow.lt hown w.heap.size e.symm).1; omega)
        case measure => simp [intOf]; omega
      · rw [Bool.not_eq_true] at ht
        rw [ht] at key hls
        rw [if_neg (by simp)] at hls
        have HL := Lib.hid (And.intro hls (And.intro hbel hA))
        clear ht hls hzl hl hbel hA
        go_wp2
        go_roundw
        case rel => exact ⟨n + 1, by omega, by go_num, by rw [HL.out.1]; exact hown, HL.out.2.1, HL.out.2.2⟩
        case measure => simp [intOf]; omega
    · obtain rfl : n = 256 := by omega
      go_wp2
      go_ret
      exact ⟨_, rfl, hown.ints (Nat.le_refl _), hbel⟩
theorem rhas_any (n : Nat) (v : Value) (L : List Nat) (i : Int) (w : World) (hI : Ints w n v (zl L)) (hl : L.length ≤ 1000000) : Calls Tryd.prog 10 #[v, .int .i64 i] w fun e w' => e = .returned (.bool (decide (i ∈ zl L))) ∧ w = w' := by
  obtain ⟨av, cv, rfl⟩ := ints_form hI
  have HI := Lib.hid hI
  clear hI
  go_enter Tryd.func10, Tryd.ntmps10
  go_wp2
  go_loop [5] (fun x => ∃ k : Nat, k ≤ L.length ∧ x = .int .i64 k ∧ Hid (i ∉ (zl L).take k)) (fun x => L.length - (intOf x).toNat)
  case atStart => exact ⟨0, by omega, rfl, show i ∉ [] by simp⟩
  case round =>
    obtain ⟨k, hk, rfl, hno⟩ := hrel
    by_cases hlt : k < L.length
    · obtain ⟨b, o, c, e, hb, hc⟩ := ints_cell HI.out hlt
      cases e
      have hck := hc k hlt
      have hts : (zl L).take (k + 1) = (zl L).take k ++ [((L.getD k 0 : Nat) : Int)] := by
        rw [List.take_succ_eq_append_getElem (by rw [zl_len]; exact hlt), ← zl_get]; simp [List.getD_eq_getElem?_getD, zl_len, hlt]
      have hmem : ((L.getD k 0 : Nat) : Int) ∈ zl L := by
        rw [← zl_get]; simp only [List.getD_eq_getElem?_getD]; rw [List.getElem?_eq_getElem (by rw [zl_len]; exact hlt)]; simp
      obtain ⟨y, hy⟩ : ∃ y, L.getD k 0 = y := ⟨_, rfl⟩
      rw [hy] at hck hts hmem
      have HT := Lib.hid (And.intro hts hmem)
      clear hts hmem hy hc HI
      by_cases hyi : (y : Int) = i
      · have hyi' : ((y : Int) == i) = true := by rw [hyi]; simp
        have HY := Lib.hid hyi
        clear hyi
        go_wp2
        go_ret
        exact ⟨ret_b (by symm; rw [decide_eq_true_eq, ← HY.out]; exact HT.out.2), rfl⟩
      · have hyi' : ((y : Int) == i) = false := by simpa using hyi
        have HY := Lib.hid hyi
        clear hyi
        go_wp2
        go_round
        case rel => exact ⟨k + 1, by omega, by go_num, show i ∉ (zl L).take (k + 1) by rw [HT.out.1]; simp; exact ⟨hno.out, fun h => HY.out h.symm⟩⟩
        case measure => simp [intOf]; omega
    · obtain rfl : k = L.length := by omega
      go_wp2
      go_ret
      exact ⟨ret_b (by symm; rw [decide_eq_false_iff_not]; have := hno.out; rw [← zl_len L, List.take_length] at this; exact this), rfl⟩
end Go.Proofs.YtikoabnonmkhkaaDoor
