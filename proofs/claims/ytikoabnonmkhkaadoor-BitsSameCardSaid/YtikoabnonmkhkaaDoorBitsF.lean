/- Walks of the document's answer for sets: Words, Same. -/
import Derived.Test.YtikoabnonmkhkaaDoorBitsE
namespace Go.Proofs.YtikoabnonmkhkaaDoor
open Go.RowKit

/-- Words as cells. -/
def uc (S : List Nat) : List Value := S.map (fun n : Nat => Value.int .u64 (n : Int))
theorem uc_set (S : List Nat) (q x : Nat) : (uc S).set q (.int .u64 x) = uc (S.set q x) := by simp [uc, List.map_set]
theorem uc_cell {w : World} {B q : Nat} {t : TypeId} {S : List Nat} (h : Arr w B t (uc S)) (hq : q < S.length) : w.cell? ⟨B, q, none⟩ = some (.int .u64 ((S.getD q 0 : Nat) : Int)) := by
  rw [h.cell]; simp [uc, List.getD_eq_getElem?_getD, hq]
theorem words_take (L : List Nat) (k : Nat) (h : k < L.length) : wordsB (L.take (k + 1)) = addB (wordsB (L.take k)) (L.getD k 0) := by
  unfold wordsB
  rw [List.take_succ_eq_append_getElem h, List.foldl_append, List.foldl_cons, List.foldl_nil, List.getD_eq_getElem?_getD, List.getElem?_eq_getElem h]
  rfl
set_option maxHeartbeats 2000000 in
set_option maxRecDepth 100000 in
theorem rwords_any (v : Value) (L : List Nat) (w : World) (hI : Ints w w.heap.size v (zl L)) (hl : L.length ≤ 1000) (hL : ∀ x ∈ L, x < 256) :
    Calls Tryd.prog 12 #[v] w fun e w' => e = .returned (svL (wordsB L)) ∧ Below w.heap.size w w' := by
  obtain ⟨av, cv, rfl⟩ := ints_form hI
  have HI : Hid (Ints w w.heap.size (.slice av L.length cv) (zl L) ∧ ∀ x ∈ L, x < 256) := ⟨hI, hL⟩
  have hW := wf_words L hL
  obtain ⟨a, b, c, d, hS, _⟩ := wf_form hW
  have HS := Lib.hid hS
  rw [hS]
  have hwt : ∀ k, wfB (wordsB (L.take k)) := fun k => wf_words _ (fun x hx => hL x (List.mem_of_mem_take hx))
  have HW := Lib.hid hwt
  clear hI hL hW hS hwt
  show Calls Tryd.prog 12 _ w fun e w' => e = .returned (sv a b c d) ∧ _
  unfold sv
  have A0 : Hid (Arr ((w.alloc (.cells #[.int .u64 0, .int .u64 0, .int .u64 0, .int .u64 0] 23)).alloc (.cells #[.int .u64 0, .int .u64 0, .int .u64 0, .int .u64 0] 23)) (w.heap.size + 1) 23 (uc [0, 0, 0, 0]) ∧
      Arr ((w.alloc (.cells #[.int .u64 0, .int .u64 0, .int .u64 0, .int .u64 0] 23)).alloc (.cells #[.int .u64 0, .int .u64 0, .int .u64 0, .int .u64 0] 23)) w.heap.size 23 (uc [0, 0, 0, 0])) := by
    refine ⟨?_, (Arr.new w 23 (uc [0, 0, 0, 0])).alloc _⟩
    have := Arr.new (w.alloc (.cells #[.int .u64 0, .int .u64 0, .int .u64 0, .int .u64 0] 23)) 23 (uc [0, 0, 0, 0])
    rw [World.size_alloc] at this
    exact this
  go_enter Tryd.func12, Tryd.ntmps12
  go_wp2
  go_loopw [4] (fun x wr => ∃ k : Nat, k ≤ L.length ∧ x = .int .i64 k ∧ Arr wr (w.heap.size + 1) 23 (uc (wordsB (L.take k))) ∧ Arr wr w.heap.size 23 (uc [0, 0, 0, 0]) ∧ Below w.heap.size w wr) (fun x _ => L.length - (intOf x).toNat)
  case atStart => exact ⟨0, by omega, rfl, A0.out.1, A0.out.2, fb_alloc (fb_alloc (Below.refl _ _) _) _⟩
  case round =>
    obtain ⟨k, hk, rfl, hA, hA0, hbel⟩ := hrel
    clear A0
    by_cases hlt : k < L.length
    · obtain ⟨bl, o, cl, e, hb, hc⟩ := ints_cell HI.out.1 hlt
      cases e
      have hck := (hbel.cell (p := ⟨bl, o + k, none⟩) hb).trans (hc k hlt)
      have hwk := HW.out k
      have hwt := words_take L k hlt
      have hy256 : L.getD k 0 < 256 := HI.out.2 _ (by simp only [List.getD_eq_getElem?_getD]; rw [List.getElem?_eq_getElem hlt]; simp)
      obtain ⟨y, hy⟩ : ∃ y, L.getD k 0 = y := ⟨_, rfl⟩
      obtain ⟨S, hSe⟩ : ∃ S, wordsB (L.take k) = S := ⟨_, rfl⟩
      rw [hy] at hck hwt hy256
      rw [hSe] at hwt hA hwk
      obtain ⟨q, hq⟩ : ∃ q, y / 64 = q := ⟨_, rfl⟩
      obtain ⟨r, hr⟩ : ∃ r, y % 64 = r := ⟨_, rfl⟩
      have hq' : (y : Int) / 64 = (q : Int) := by omega
      have hr' : (y : Int) % 64 = (r : Int) := by omega
      have hr64 : r < 64 := by omega
      have hq4 : (q : Int) < 4 := by omega
      have hq0 : (0 : Int) ≤ q := by omega
      have hy0 : (0 : Int) ≤ y := by omega
      have hx := uc_cell hA (q := q) (by rw [hwk.1]; omega)
      have hf := hA.frozen q
      have hx64 := hwk.2 q
      have hadd : addB S y = S.set q (S.getD q 0 ||| 2 ^ r) := by unfold addB; rw [hq, hr]
      obtain ⟨x, hxe⟩ : ∃ x, S.getD q 0 = x := ⟨_, rfl⟩
      obtain ⟨p, hp⟩ : ∃ p, 2 ^ r = p := ⟨_, rfl⟩
      obtain ⟨hpw, hp64⟩ := pow_wrap r p hr64 hp
      have hpI : (2 : Int) ^ r = (p : Int) := by rw [← hp]; simp
      rw [hxe] at hx hx64 hadd
      rw [hp] at hadd
      have hor := u64_or_nat x p (by omega) (by omega)
      rw [hadd] at hwt
      have HH := Lib.hid (And.intro hA (And.intro hA0 (And.intro hbel hwt)))
      clear hy hSe hq hr hwk hxe hp hadd hA hA0 hbel hwt hb hc
      go_wp2
      refine wp_region_drewN_tail 20 (by kernel_rfl) (by kernel_rfl) ?_
      simp only [List.take_succ_cons, List.take_zero, List.drop_succ_cons, List.drop_zero]
      repeat (go_big_quiet_step (fail))
      refine wpQuiet_nil ?_
      intro _ hw'
      obtain ⟨nq, hw''⟩ := hw'
      subst hw''
      go_wp2
      go_roundw
      case rel =>
        refine ⟨k + 1, by omega, by go_num, ?_, (HH.out.2.1.set_other _ _ (by simp)), fb_drewN (HH.out.2.2.1.setCell (by simp) _) _⟩
        have := HH.out.1.set q (.int .u64 ((x ||| p : Nat) : Int))
        rw [uc_set, ← HH.out.2.2.2] at this
        exact this
      case measure => simp [intOf]; omega
    · obtain rfl : k = L.length := by omega
      rw [List.take_length, HS.out] at hA
      have c0 : wr.cell? ⟨w.heap.size + 1, 0, none⟩ = some (.int .u64 a) := hA.cell 0
      have c1 : wr.cell? ⟨w.heap.size + 1, 1, none⟩ = some (.int .u64 b) := hA.cell 1
      have c2 : wr.cell? ⟨w.heap.size + 1, 2, none⟩ = some (.int .u64 c) := hA.cell 2
      have c3 : wr.cell? ⟨w.heap.size + 1, 3, none⟩ = some (.int .u64 d) := hA.cell 3
      have d0 : wr.cell? ⟨w.heap.size, 0, none⟩ = some (.int .u64 0) := hA0.cell 0
      have d1 : wr.cell? ⟨w.heap.size, 1, none⟩ = some (.int .u64 0) := hA0.cell 1
      have d2 : wr.cell? ⟨w.heap.size, 2, none⟩ = some (.int .u64 0) := hA0.cell 2
      have d3 : wr.cell? ⟨w.heap.size, 3, none⟩ = some (.int .u64 0) := hA0.cell 3
      have f0 := hA0.frozen 0
      have f1 := hA0.frozen 1
      have f2 := hA0.frozen 2
      have f3 := hA0.frozen 3
      have HB := Lib.hid hbel
      clear hA hA0 hbel
      go_wp2
      exact bodyPost_ret (by simp [results, Tryd.results12, go_sem, d0, d1, d2, d3]) rfl ⟨rfl, (((HB.out.setCell (by exact Nat.le_refl _) _).setCell (by exact Nat.le_refl _) _).setCell (by exact Nat.le_refl _) _).setCell (by exact Nat.le_refl _) _⟩
theorem rplace_yes (i : Int) (w : World) (h0 : 0 ≤ i) (h1 : i < 256) : Calls Tryd.prog 32 #[.int .i64 i] w fun e w' => e = .returned (.bool true) ∧ w = w' := by
  go_enter Tryd.func32, Tryd.ntmps32
  go_wp2
  go_ret
  exact ⟨rfl, rfl⟩
theorem rplace_no (i : Int) (w : World) (h : i < 0 ∨ 256 ≤ i) : Calls Tryd.prog 32 #[.int .i64 i] w fun e w' => e = .returned (.bool false) ∧ w = w' := by
  rcases h with h | h
  · go_enter Tryd.func32, Tryd.ntmps32
    go_wp2
    go_ret
    exact ⟨rfl, rfl⟩
  · have h0 : 0 ≤ i := by omega
    have hd : decide (i < 256) = false := by simp; omega
    go_enter Tryd.func32, Tryd.ntmps32
    go_wp2
    go_ret
    exact ⟨rfl, rfl⟩
/-- What Add leaves: a list with one place more, if it is one. -/
def AddPost (L : List Nat) (i : Int) (w : World) (e : Ending) (w' : World) : Prop := ∃ u M, e = .returned u ∧ Ints w' w'.heap.size u (zl M) ∧ Below w.heap.size w w' ∧ M.length ≤ L.length + 1 ∧ ∀ x : Nat, x ∈ M ↔ x ∈ L ∨ ((x : Int) = i ∧ x < 256)
theorem mem_zl (L : List Nat) (x : Nat) : (x : Int) ∈ zl L ↔ x ∈ L := by
  simp only [zl, List.mem_map]
  constructor
  · rintro ⟨a, h, e⟩
    rwa [show a = x by omega] at h
  · exact fun h => ⟨x, h, rfl⟩
theorem radd_same (v : Value) (L : List Nat) (i : Int) (w : World) (hI : Ints w w.heap.size v (zl L)) (hl : L.length ≤ 1000) (h : (i < 0 ∨ 256 ≤ i) ∨ i ∈ zl L) :
    Calls Tryd.prog 13 #[v, .int .i64 i] w (AddPost L i w) := by
  have hm : ∀ x : Nat, x ∈ L ↔ x ∈ L ∨ ((x : Int) = i ∧ x < 256) := fun x => by
    constructor
    · exact .inl
    · rintro (h1 | ⟨h1, h2⟩)
      · exact h1
      · rcases h with h | h
        · omega
        · rw [← h1, mem_zl] at h; exact h
  obtain ⟨av, cv, rfl⟩ := ints_form hI
  have HI : Hid (Ints w w.heap.size (.slice av L.length cv) (zl L) ∧ ∀ x : Nat, x ∈ L ↔ x ∈ L ∨ ((x : Int) = i ∧ x < 256)) := ⟨hI, hm⟩
  have H := Lib.hid h
  clear hI hm
  by_cases hp : 0 ≤ i ∧ i < 256
  · have h2 : i ∈ zl L := h.resolve_left (by omega)
    have hd := decide_eq_true h2
    clear h h2
    go_enter Tryd.func13, Tryd.ntmps13
    go_wp2_with fail
    refine (rplace_yes i _ hp.1 hp.2).mono ?_
    rintro e w' ⟨rfl, rfl⟩
    go_wp2_with fail
    refine (rhas_any w.heap.size _ L i _ HI.out.1 (by omega)).mono ?_
    rintro e w' ⟨rfl, rfl⟩
    rw [hd]
    go_wp2
    go_ret
    exact ⟨_, L, rfl, HI.out.1, Below.refl _ _, by omega, HI.out.2⟩
  · clear h
    go_enter Tryd.func13, Tryd.ntmps13
    go_wp2_with fail
    refine (rplace_no i _ (by omega)).mono ?_
    rintro e w' ⟨rfl, rfl⟩
    go_wp2
    go_ret
    exact ⟨_, L, rfl, HI.out.1, Below.refl _ _, by omega, HI.out.2⟩
set_option maxHeartbeats 2000000 in
theorem radd_new (v : Value) (L : List Nat) (n : Nat) (w : World) (hI : Ints w w.heap.size v (zl L)) (hl : L.length ≤ 1000) (hn : n < 256) (hni : (n : Int) ∉ zl L) :
    Calls Tryd.prog 13 #[v, .int .i64 n] w (AddPost L n w) := by
  obtain ⟨i0, hi, hz0, hz1, hz2⟩ := info_parts infoI
  obtain ⟨av, cv, rfl⟩ := ints_form hI
  have HI := Lib.hid hI
  have hd := decide_eq_false hni
  clear hI hni
  go_enter Tryd.func13, Tryd.ntmps13
  go_wp2_with fail
  refine (rplace_yes n _ (by omega) (by omega)).mono ?_
  rintro e w' ⟨rfl, rfl⟩
  go_wp2_with fail
  refine (rhas_any w.heap.size _ L n _ HI.out (by omega)).mono ?_
  rintro e w' ⟨rfl, rfl⟩
  rw [hd]
  go_wp2
  clear hd
  go_loopw [7, 6, 5] (fun x dn u wr => ∃ (k : Nat) (b : Bool) (M : List Nat), k ≤ L.length ∧ x = .int .i64 k ∧ dn = .bool b ∧ IRow wr w.heap.size u (zl M) ∧ Below w.heap.size w wr ∧ Hid (M.length = k + (if b then 1 else 0) ∧ ∀ x : Nat, x ∈ M ↔ x ∈ L.take k ∨ (b = true ∧ x = n))) (fun x _ _ _ => L.length - (intOf x).toNat)
  case atStart => exact ⟨0, false, [], by omega, rfl, rfl, IRow.nil _ _, Below.refl _ _, rfl, fun x => by simp⟩
  case round =>
    obtain ⟨k, bb, M, hk, rfl, rfl, hown, hbel, hM⟩ := hrel
    have hml : M.length ≤ 1001 := by have := hM.out.1; cases bb <;> simp at this <;> omega
    have hzl := zl_len M
    have hzl' : (zl M).length ≤ 1001 := by omega
    clear hzl
    by_cases hlt : k < L.length
    · obtain ⟨b, o, c, e, hb, hc⟩ := ints_cell HI.out hlt
      cases e
      have hck := (hbel.cell (p := ⟨b, o + k, none⟩) hb).trans (hc k hlt)
      have hts : L.take (k + 1) = L.take k ++ [L.getD k 0] := by
        rw [List.take_succ_eq_append_getElem hlt]; simp [List.getD_eq_getElem?_getD, hlt]
      obtain ⟨y, hy⟩ : ∃ y, L.getD k 0 = y := ⟨_, rfl⟩
      rw [hy] at hck hts
      have HL : Hid (Below w.heap.size w wr ∧ L.take (k + 1) = L.take k ++ [y] ∧ b < w.heap.size ∧ w.cell? ⟨b, o + k, none⟩ = some (.int .i64 y)) := ⟨hbel, hts, hb, by rw [hc k hlt, hy]⟩
      clear hts hy hbel hb hc
      by_cases hcond : bb = false ∧ n < y
      · obtain ⟨rfl, hny⟩ := hcond
        have hny' : (n : Int) < y := by omega
        have tok : True := trivial
        go_wp2_with (first
          | (at_builtin; have _t := tok; refine wpList_append_own _ rfl (.tmp 33) (.tmp 35) 25 rfl w.heap.size 3 i0 (.int .i64 0) 1 8 Tryd.underlying25 hi hz0 hz1 hz2 rfl (by decide) _ _ _ rfl (hown.alloc _) ⟨wr.heap.size, 0, none⟩ 1 1 [.int .i64 n] rfl rfl (cell_one_new _ _ _) (by simp [Value.oneCell']) (by unfold maxLen; omega) (by omega) (by have := HL.out.1.size; simp; omega) ?_; intro v' w1 hown' hgrow hfr'; clear tok; have hb1 := IRow.appBel HL.out.1 hown hgrow; have ho1 := IRow.app hown'; have c1 := (hb1.cell (p := ⟨b, o + k, none⟩) HL.out.2.2.1).trans HL.out.2.2.2; have hs1 := hb1.size; have hlen1 : (zl M ++ [(n : Int)]).length ≤ 1002 := by simp; omega)
          | (at_builtin; refine wpList_append_own _ rfl (.tmp 37) (.tmp 42) 25 rfl w.heap.size 3 i0 (.int .i64 0) 1 8 Tryd.underlying25 hi hz0 hz1 hz2 rfl (by decide) v' (zl M ++ [(n : Int)]).length ((zl M ++ [(n : Int)]).map (Value.int .i64)) (by simp [Act.eval]) (World.ownsRow.alloc ho1 _) ⟨w1.heap.size, 0, none⟩ 1 1 [.int .i64 y] (by simp [Act.eval]) rfl (cell_one_new _ _ _) (by simp [Value.oneCell']) (by unfold maxLen; omega) (by omega) (by have := HL.out.1.size; simp; omega) ?_; intro v2 w2 hown2 hgrow2 hfr2))
        go_roundw
        case rel =>
          refine ⟨k + 1, true, M ++ [n] ++ [y], by omega, by go_num, rfl, ?_, IRow.appBel hb1 ho1 hgrow2, ?_⟩
          · rw [zl_app, zl_app]; exact IRow.app hown2
          · refine ⟨by have := hM.out.1; simp at this ⊢; omega, fun x => ?_⟩
            rw [HL.out.2.1]
            have := hM.out.2 x
            simp at this ⊢
            rw [this]
            constructor
            · rintro (h | h | h)
              · exact .inl (.inl h)
              · exact .inr h
              · exact .inl (.inr h)
            · rintro ((h | h) | h)
              · exact .inl h
              · exact .inr (.inr h)
              · exact .inr (.inl h)
        case measure => simp [intOf]; omega
      · have hcb : (!bb && decide ((n : Int) < (y : Int))) = false := by
          cases bb
          · simp; simp at hcond; omega
          · rfl
        have hcase : (bb = true) ∨ (bb = false ∧ ¬ (n : Int) < (y : Int)) := by
          cases bb
          · exact .inr ⟨rfl, fun h => hcond ⟨rfl, by omega⟩⟩
          · exact .inl rfl
        clear hcond hcb
        rcases hcase with rfl | ⟨rfl, hny⟩
        all_goals
          go_wp2_with (at_builtin; refine wpList_append_own _ rfl (.tmp 37) (.tmp 42) 25 rfl w.heap.size 3 i0 (.int .i64 0) 1 8 Tryd.underlying25 hi hz0 hz1 hz2 rfl (by decide) _ _ _ rfl (hown.alloc _) ⟨wr.heap.size, 0, none⟩ 1 1 [.int .i64 y] rfl rfl (cell_one_new _ _ _) (by simp [Value.oneCell']) (by unfold maxLen; omega) (by omega) (by have := HL.out.1.size; simp; omega) ?_; intro v' w1 hown' hgrow hfr')
          go_roundw
          case rel =>
            refine ⟨k + 1, _, M ++ [y], by omega, by go_num, rfl, ?_, IRow.appBel HL.out.1 hown hgrow, ?_⟩
            · rw [zl_app]; exact IRow.app hown'
            · refine ⟨by have := hM.out.1; simp at this ⊢; omega, fun x => ?_⟩
              rw [HL.out.2.1]
              have := hM.out.2 x
              simp at this ⊢
              rw [this]
              try constructor
              try
                rintro ((h | h) | h)
                · exact .inl (.inl h)
                · exact .inr h
                · exact .inl (.inr h)
              try
                rintro ((h | h) | h)
                · exact .inl (.inl h)
                · exact .inr h
                · exact .inl (.inr h)
          case measure => simp [intOf]; omega
    · obtain rfl : k = L.length := by omega
      rw [List.take_length] at hM
      cases bb
      · go_wp2_with (at_builtin; refine wpList_append_own _ rfl (.tmp 46) (.tmp 48) 25 rfl w.heap.size 3 i0 (.int .i64 0) 1 8 Tryd.underlying25 hi hz0 hz1 hz2 rfl (by decide) _ _ _ rfl (hown.alloc _) ⟨wr.heap.size, 0, none⟩ 1 1 [.int .i64 n] rfl rfl (cell_one_new _ _ _) (by simp [Value.oneCell']) (by unfold maxLen; omega) (by omega) (by have := hbel.size; simp; omega) ?_; intro v' w1 hown' hgrow hfr')
        go_ret
        refine ⟨_, M ++ [n], rfl, ?_, IRow.appBel hbel hown hgrow, ?_, ?_⟩
        · rw [zl_app]; exact (IRow.app hown').ints (Nat.le_refl _)
        · have := hM.out.1; simp at this ⊢; omega
        · intro x
          have := hM.out.2 x
          simp at this ⊢
          rw [this]
          constructor
          · rintro (h | h)
            · exact .inl h
            · exact .inr (by omega)
          · rintro (h | h)
            · exact .inl h
            · exact .inr (by omega)
      · go_wp2
        go_ret
        refine ⟨_, M, rfl, hown.ints (Nat.le_refl _), hbel, ?_, ?_⟩
        · have := hM.out.1; simp at this ⊢; omega
        · intro x
          have := hM.out.2 x
          simp at this ⊢
          rw [this]
          constructor
          · rintro (h | h)
            · exact .inl h
            · exact .inr (by omega)
          · rintro (h | h)
            · exact .inl h
            · exact .inr (by omega)
end Go.Proofs.YtikoabnonmkhkaaDoor
