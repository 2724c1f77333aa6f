/- The document's index: its record in memory, and the walks of its functions. No condition. The document's lists: All and Having. No condition. Whole records of the document, out of memory and into it. No condition. What IndexPlays holds, by colours. No condition. Types of a region's slots, for IndexPlays. No condition. -/
import Derived.Test.YtcgadmeagbcbnaaDoorIdxR
import Derived.Test.YtcgadmeagbcbnaaDoorIdxX
import Derived.Great.BuildSlice
import Derived.Deep.WholeRow
namespace Go.Proofs.YtcgadmeagbcbnaaDoor
section
open Go.RowKit
attribute [local irreducible] Calls

/-- The record's cells: the cards, what each slot holds, which are touched. -/
def docC (u : Value) (H : List Int) (Z : List Nat) : List Value := u :: (H.map (Value.int .i64) ++ (List.range 256).map (fun i => Value.bool (hasS Z i)))
def DocAt (w : World) (D : Nat) (u : Value) (H : List Int) (Z : List Nat) : Prop := H.length = 256 ∧ Arr w D 33 (docC u H Z)
theorem docC_len {H : List Int} (u : Value) (Z : List Nat) (h : H.length = 256) : (docC u H Z).length = 513 := by simp [docC, h]
theorem doc_held {H : List Int} (u : Value) (Z : List Nat) (h : H.length = 256) {i : Nat} (hi : i < 256) : (docC u H Z)[1 + i]? = some (.int .i64 (H.getD i 0)) := by
  unfold docC
  rw [Nat.add_comm, List.getElem?_cons_succ, List.getElem?_append_left (by simp; omega)]
  simp [List.getD_eq_getElem?_getD, show i < H.length by omega]
theorem doc_touch {H : List Int} (u : Value) (Z : List Nat) (h : H.length = 256) {i : Nat} (hi : i < 256) : (docC u H Z)[257 + i]? = some (.bool (hasS Z i)) := by
  unfold docC
  rw [show 257 + i = (256 + i) + 1 by omega, List.getElem?_cons_succ, List.getElem?_append_right (by simp; omega)]
  simp [h, hi]
theorem doc_setH {H : List Int} (u : Value) (Z : List Nat) (h : H.length = 256) {i : Nat} (hi : i < 256) (v : Int) : (docC u H Z).set (1 + i) (.int .i64 v) = docC u (H.set i v) Z := by
  unfold docC
  rw [Nat.add_comm, List.set_cons_succ, List.set_append_left _ _ (by simp; omega), List.map_set]
theorem doc_setZ {H : List Int} (u : Value) {Z Z' : List Nat} (h : H.length = 256) {i : Nat} (hi : i < 256) (b : Bool) (hZ : ∀ j, j < 256 → hasS Z' j = if j = i then b else hasS Z j) : (docC u H Z).set (257 + i) (.bool b) = docC u H Z' := by
  unfold docC
  rw [show 257 + i = (256 + i) + 1 by omega, List.set_cons_succ, List.set_append_right _ _ (by simp; omega)]
  congr 2
  apply List.ext_getElem (by simp)
  intro j h1 h2
  have hj : j < 256 := by simpa using h2
  simp only [List.getElem_set, List.getElem_map, List.getElem_range, List.length_map, h, show 256 + i - 256 = i by omega]
  rw [hZ j hj]
  by_cases e : i = j
  · subst e; simp
  · rw [if_neg e, if_neg (fun e' => e e'.symm)]
/-! What its functions make of it. -/
def putD (s cd : Int) (H : List Int) : List Int := if inS s ∧ 0 ≤ cd ∧ cd < 40 then H.set s.toNat (cd + 1) else H
def takeD (s : Int) (H : List Int) : List Int := if inS s then H.set s.toNat 0 else H
def cardD (s : Int) (H : List Int) : Int := if inS s then H.getD s.toNat 0 - 1 else -1
theorem put_doc {abs : List (List (Int × Int))} {m : IM} (h : IGood abs m) (s cd : Int) : (putI abs s cd m).H = putD s cd m.H ∧ (putI abs s cd m).Z 0 = m.Z 0 := by
  unfold putI putD
  by_cases hh : inS s ∧ 0 ≤ cd ∧ cd < 40
  · rw [if_pos hh, if_pos hh]
    exact ⟨rfl, (good_hold h (by have := hh.1.2; have := hh.1.1; omega) (by omega) (by omega)).2⟩
  · rw [if_neg hh, if_neg hh]; exact ⟨rfl, rfl⟩
theorem take_doc {abs : List (List (Int × Int))} {m : IM} (h : IGood abs m) (s : Int) : (takeI abs s m).H = takeD s m.H ∧ (takeI abs s m).Z 0 = delI (m.Z 0) s := by
  unfold takeI takeD
  by_cases hh : inS s
  · rw [if_pos hh, if_pos hh]
    refine ⟨rfl, ?_⟩
    show upd (putM abs s.toNat 0 m).Z 0 (delI ((putM abs s.toNat 0 m).Z 0) s) 0 = _
    rw [upd_at, show (putM abs s.toNat 0 m).Z 0 = m.Z 0 from (good_hold h (by have := hh.2; have := hh.1; omega) (by omega) (by omega)).2]
  · rw [if_neg hh, if_neg hh]
    exact ⟨rfl, by unfold delI; rw [if_neg (show ¬ (0 ≤ s ∧ s < 256) from hh)]⟩
theorem touch_doc (m : IM) (s : Int) : (touchI s m).H = m.H ∧ (touchI s m).Z 0 = addI (m.Z 0) s := ⟨rfl, upd_at m.Z 0 _⟩
theorem clear_doc (m : IM) (s : Int) : (clearI s m).H = m.H ∧ (clearI s m).Z 0 = delI (m.Z 0) s := ⟨rfl, upd_at m.Z 0 _⟩
section
variable {w : World} {D : Nat} {u : Value} {H : List Int} {Z : List Nat}
theorem rplace_yes (i : Int) (w : World) (h0 : 0 ≤ i) (h1 : i < 256) : Calls Tryd.prog 38 #[.int .i64 i] w fun e w' => e = .returned (.bool true) ∧ w = w' := by
  go_enter Tryd.func38, Tryd.ntmps38
  go_wp2
  go_ret
  exact ⟨rfl, rfl⟩
theorem rplace_no (i : Int) (w : World) (h : ¬ inS i) : Calls Tryd.prog 38 #[.int .i64 i] w fun e w' => e = .returned (.bool false) ∧ w = w' := by
  by_cases h0 : i < 0
  · clear h
    go_enter Tryd.func38, Tryd.ntmps38
    go_wp2
    go_ret
    exact ⟨rfl, rfl⟩
  · have h1 : ¬ i < 256 := fun h' => h ⟨by omega, h'⟩
    have h2 : (0 : Int) ≤ i := by omega
    clear h h0
    go_enter Tryd.func38, Tryd.ntmps38
    go_wp2
    go_ret
    exact ⟨rfl, rfl⟩
/-- Behind a function that wrote the record only. -/
def DocN (w w' : World) (D : Nat) (u : Value) (H : List Int) (Z : List Nat) : Prop := DocAt w' D u H Z ∧ Moved w w' (fun k => k = D)
theorem DocAt.held (h : DocAt w D u H Z) {i : Nat} (hi : i < 256) : w.cell? ⟨D, 1 + i, none⟩ = some (.int .i64 (H.getD i 0)) := by rw [h.2.cell]; exact doc_held u Z h.1 hi
theorem DocAt.touched (h : DocAt w D u H Z) {i : Nat} (hi : i < 256) : w.cell? ⟨D, 257 + i, none⟩ = some (.bool (hasS Z i)) := by rw [h.2.cell]; exact doc_touch u Z h.1 hi
theorem DocAt.same (h : DocAt w D u H Z) : DocN w w D u H Z := ⟨h, Moved.of_below (Below.refl _ _) _⟩
theorem DocAt.setH (h : DocAt w D u H Z) {i : Nat} (hi : i < 256) (v : Int) : DocN w (w.setCell ⟨D, 1 + i, none⟩ (.int .i64 v)) D u (H.set i v) Z :=
  ⟨⟨by rw [List.length_set]; exact h.1, by rw [← doc_setH u Z h.1 hi]; exact h.2.set _ _⟩, Moved.of_set w ⟨D, 1 + i, none⟩ _ rfl⟩
theorem DocAt.setZ {Z' : List Nat} (h : DocAt w D u H Z) {i : Nat} (hi : i < 256) (b : Bool) (hZ : ∀ j, j < 256 → hasS Z' j = if j = i then b else hasS Z j) : DocN w (w.setCell ⟨D, 257 + i, none⟩ (.bool b)) D u H Z' :=
  ⟨⟨h.1, by rw [← doc_setZ u h.1 hi b hZ]; exact h.2.set _ _⟩, Moved.of_set w ⟨D, 257 + i, none⟩ _ rfl⟩
theorem DocN.trans {w w1 w' : World} {D : Nat} {u : Value} {H H' : List Int} {Z Z' : List Nat} (h : DocN w w1 D u H Z) (h' : DocN w1 w' D u H' Z') : DocN w w' D u H' Z' := ⟨h'.1, h.2.trans h'.2 fun _ hj => .inl hj⟩
theorem addI_at {S : List Nat} (h : wfB S) (i : Nat) (hi : i < 256) : ∀ j, j < 256 → hasS (addI S (i : Int)) j = if j = i then true else hasS S j := fun j hj => by
  rw [show addI S (i : Int) = addB S i by unfold addI; rw [if_pos ⟨by omega, by omega⟩, Int.toNat_natCast], has_add h i j hi]
  by_cases e : j = i <;> simp [e]
theorem delI_at {S : List Nat} (h : wfB S) (i : Nat) (hi : i < 256) : ∀ j, j < 256 → hasS (delI S (i : Int)) j = if j = i then false else hasS S j := fun j hj => by
  rw [show delI S (i : Int) = delB S i by unfold delI; rw [if_pos ⟨by omega, by omega⟩, Int.toNat_natCast], has_del h i j hi]
  by_cases e : j = i <;> simp [e]
set_option maxRecDepth 100000 in
theorem rput_any (h : DocAt w D u H Z) (s cd : Int) : Calls Tryd.prog 19 #[.pointer (some ⟨D, 0, none⟩), .int .i64 s, .int .i64 cd] w fun e w' => e = .returned (.tuple #[]) ∧ DocN w w' D u (putD s cd H) Z := by
  unfold putD
  by_cases hs : inS s
  · obtain ⟨i, rfl⟩ := Int.eq_ofNat_of_zero_le hs.1
    have i0 : (0 : Int) ≤ i := by omega
    have i1 : (i : Int) < 256 := hs.2
    by_cases hc : 0 ≤ cd ∧ cd < 40
    · obtain ⟨h0, h1⟩ := hc
      rw [if_pos ⟨hs, h0, h1⟩, Int.toNat_natCast]
      have HN := Lib.hid (h.setH (show i < 256 by omega) (cd + 1))
      have cH := h.held (show i < 256 by omega)
      have fH := h.2.frozen (1 + i)
      clear h hs
      go_enter Tryd.func19, Tryd.ntmps19
      go_wp2_with (go_at_call 38; refine (rplace_yes (i : Int) _ i0 i1).mono ?_; rintro e w' ⟨rfl, rfl⟩)
      go_end0
      exact ⟨rfl, HN.out⟩
    · rw [if_neg (fun h => hc h.2)]
      have HN := Lib.hid h.same
      clear h
      by_cases h0 : 0 ≤ cd
      · have h1 : ¬ cd < 40 := fun h => hc ⟨h0, h⟩
        clear hc hs
        go_enter Tryd.func19, Tryd.ntmps19
        go_wp2_with (go_at_call 38; refine (rplace_yes (i : Int) _ i0 i1).mono ?_; rintro e w' ⟨rfl, rfl⟩)
        go_end0
        exact ⟨rfl, HN.out⟩
      · clear hc hs
        go_enter Tryd.func19, Tryd.ntmps19
        go_wp2_with (go_at_call 38; refine (rplace_yes (i : Int) _ i0 i1).mono ?_; rintro e w' ⟨rfl, rfl⟩)
        go_end0
        exact ⟨rfl, HN.out⟩
  · rw [if_neg (fun h => hs h.1)]
    have HN := Lib.hid h.same
    have HI := Lib.hid hs
    clear h hs
    go_enter Tryd.func19, Tryd.ntmps19
    go_wp2_with (go_at_call 38; refine (rplace_no s _ HI.out).mono ?_; rintro e w' ⟨rfl, rfl⟩)
    go_end0
    exact ⟨rfl, HN.out⟩
set_option maxRecDepth 100000 in
theorem rtouch_any (h : DocAt w D u H Z) (hZ : wfB Z) (s : Int) (b : Bool) : Calls Tryd.prog 14 #[.pointer (some ⟨D, 0, none⟩), .int .i64 s, .bool b] w fun e w' => e = .returned (.tuple #[]) ∧ DocN w w' D u H (if b then addI Z s else delI Z s) := by
  by_cases hs : inS s
  · obtain ⟨i, rfl⟩ := Int.eq_ofNat_of_zero_le hs.1
    have i0 : (0 : Int) ≤ i := by omega
    have i1 : (i : Int) < 256 := hs.2
    have HN := Lib.hid (show DocN w (w.setCell ⟨D, 257 + i, none⟩ (.bool b)) D u H (if b then addI Z (i : Int) else delI Z (i : Int)) from by
      have hi : i < 256 := by omega
      have hd := delI_at hZ i hi
      have ha := addI_at hZ i hi
      cases b
      · rw [if_neg Bool.false_ne_true]; exact h.setZ hi false hd
      · rw [if_pos rfl]; exact h.setZ hi true ha)
    generalize (if b then addI Z (i : Int) else delI Z (i : Int)) = Z' at HN ⊢
    have cH := h.touched (show i < 256 by omega)
    have fH := h.2.frozen (257 + i)
    clear h hs
    go_enter Tryd.func14, Tryd.ntmps14
    go_wp2_with (go_at_call 38; refine (rplace_yes (i : Int) _ i0 i1).mono ?_; rintro e w' ⟨rfl, rfl⟩)
    go_end0
    exact ⟨rfl, HN.out⟩
  · have HN := Lib.hid h.same
    have HI := Lib.hid hs
    rw [show (if b then addI Z s else delI Z s) = Z by cases b <;> simp [addI, delI, show ¬ (0 ≤ s ∧ s < 256) from hs]]
    clear h hs
    go_enter Tryd.func14, Tryd.ntmps14
    go_wp2_with (go_at_call 38; refine (rplace_no s _ HI.out).mono ?_; rintro e w' ⟨rfl, rfl⟩)
    go_end0
    exact ⟨rfl, HN.out⟩
set_option maxRecDepth 100000 in
theorem rtake_any (h : DocAt w D u H Z) (hZ : wfB Z) (s : Int) : Calls Tryd.prog 12 #[.pointer (some ⟨D, 0, none⟩), .int .i64 s] w fun e w' => e = .returned (.tuple #[]) ∧ DocN w w' D u (takeD s H) (delI Z s) := by
  unfold takeD
  by_cases hs : inS s
  · obtain ⟨i, rfl⟩ := Int.eq_ofNat_of_zero_le hs.1
    have i0 : (0 : Int) ≤ i := by omega
    have i1 : (i : Int) < 256 := hs.2
    rw [if_pos hs, Int.toNat_natCast]
    have hN := h.setH (show i < 256 by omega) 0
    have HN := Lib.hid (hN.trans (hN.1.setZ (show i < 256 by omega) false (delI_at hZ i (by omega))))
    have cH := h.held (show i < 256 by omega)
    have fH := h.2.frozen (1 + i)
    have cZ := hN.1.touched (show i < 256 by omega)
    have fZ := hN.1.2.frozen (257 + i)
    clear h hs hN
    go_enter Tryd.func12, Tryd.ntmps12
    go_wp2_with (go_at_call 38; refine (rplace_yes (i : Int) _ i0 i1).mono ?_; rintro e w' ⟨rfl, rfl⟩)
    go_end0
    exact ⟨rfl, HN.out⟩
  · have HN := Lib.hid h.same
    have HI := Lib.hid hs
    rw [if_neg hs, show delI Z s = Z by unfold delI; rw [if_neg (show ¬ (0 ≤ s ∧ s < 256) from hs)]]
    clear h hs
    go_enter Tryd.func12, Tryd.ntmps12
    go_wp2_with (go_at_call 38; refine (rplace_no s _ HI.out).mono ?_; rintro e w' ⟨rfl, rfl⟩)
    go_end0
    exact ⟨rfl, HN.out⟩
set_option maxRecDepth 100000 in
theorem rcard_any (h : DocAt w D u H Z) (hr : ∀ i, i < 256 → 0 ≤ H.getD i 0 ∧ H.getD i 0 ≤ 40) (s : Int) : Calls Tryd.prog 21 #[.pointer (some ⟨D, 0, none⟩), .int .i64 s] w fun e w' => e = .returned (.int .i64 (cardD s H)) ∧ w = w' := by
  unfold cardD
  by_cases hs : inS s
  · obtain ⟨i, rfl⟩ := Int.eq_ofNat_of_zero_le hs.1
    have i0 : (0 : Int) ≤ i := by omega
    have i1 : (i : Int) < 256 := hs.2
    rw [if_pos hs, Int.toNat_natCast]
    have cH := h.held (show i < 256 by omega)
    have hr' := hr i (by omega)
    obtain ⟨v, hv⟩ : ∃ v, H.getD i 0 = v := ⟨_, rfl⟩
    rw [hv] at cH hr' ⊢
    have hw2 : IntKind.i64.wrap (v - 1) = v - 1 := IntWalk.i64_in _ (by omega)
    clear h hs hr hr' hv
    go_enter Tryd.func21, Tryd.ntmps21
    go_wp2_with (go_at_call 38; refine (rplace_yes (i : Int) _ i0 i1).mono ?_; rintro e w' ⟨rfl, rfl⟩)
    go_ret
    exact ⟨rfl, rfl⟩
  · have HI := Lib.hid hs
    rw [if_neg hs]
    clear h hs hr
    go_enter Tryd.func21, Tryd.ntmps21
    go_wp2_with (go_at_call 38; refine (rplace_no s _ HI.out).mono ?_; rintro e w' ⟨rfl, rfl⟩)
    go_ret
    exact ⟨rfl, rfl⟩
end
end
section
open Go.RowKit
attribute [local irreducible] Calls

/-- The slots below n at which p holds. -/
def sel (p : Nat → Bool) (n : Nat) : List Nat := (List.range n).filter p
theorem sel_succ (p : Nat → Bool) (n : Nat) : sel p (n + 1) = if p n then sel p n ++ [n] else sel p n := by
  unfold sel
  rw [List.range_succ, List.filter_append]
  cases h : p n <;> simp [h]
theorem sel_len (p : Nat → Bool) (n : Nat) : (sel p n).length ≤ n := by
  have := List.length_filter_le p (List.range n)
  simpa [sel] using this
theorem lst_sel (Z : List Nat) : lst Z = sel (hasS Z) 256 := rfl
theorem sel_same {p r : Nat → Bool} (n : Nat) (h : ∀ i, i < n → p i = r i) : sel p n = sel r n := by
  unfold sel
  apply List.filter_congr
  intro x hx
  exact h x (List.mem_range.1 hx)
section
variable {w : World} {D : Nat} {u : Value} {H : List Int} {Z : List Nat}
theorem DocAt.below {w' : World} (h : DocAt w D u H Z) (hb : Below w.heap.size w w') : DocAt w' D u H Z := ⟨h.1, h.2.below hb h.2.lt⟩
set_option maxRecDepth 100000 in
set_option maxHeartbeats 1000000 in
theorem rall_any (h : DocAt w D u H Z) : Calls Tryd.prog 25 #[.pointer (some ⟨D, 0, none⟩)] w fun e w' => ∃ v, e = .returned v ∧ IRow w' w.heap.size v (zl (sel (hasS Z) 256)) ∧ Below w.heap.size w w' := by
  obtain ⟨i0, hi, hz0, hz1, hz2⟩ := info_parts infoI
  have HD := Lib.hid h
  clear h
  go_enter Tryd.func25, Tryd.ntmps25
  go_wp2
  go_loopw [3, 4] (fun v i wr => ∃ (j : Nat) (l : List Int), j ≤ 256 ∧ i = .int .i64 j ∧ IRow wr w.heap.size v l ∧ Below w.heap.size w wr ∧ Hid (l = zl (sel (hasS Z) j))) (fun _ i _ => 256 - (intOf i).toNat)
  case atStart => exact ⟨0, [], Nat.zero_le _, rfl, IRow.nil _ _, Below.refl _ _, Lib.hid rfl⟩
  case round =>
    obtain ⟨j, l, hj, rfl, hown, hbel, hl⟩ := hrel
    by_cases hlt : j < 256
    · have cZ := (HD.out.below hbel).touched hlt
      have j0 : (0 : Int) ≤ j := by omega
      have j1 : (j : Int) < 256 := by omega
      have hs := sel_succ (hasS Z) j
      have hll : l.length ≤ 256 := by rw [hl.out, zl_len]; have := sel_len (hasS Z) j; omega
      obtain ⟨b, hb⟩ : ∃ b, hasS Z j = b := ⟨_, rfl⟩
      rw [hb] at cZ hs
      clear hb
      cases b
      · have H0 := Lib.hid (And.intro hown (And.intro hbel (hl.out.trans (congrArg zl (hs.trans (if_neg Bool.false_ne_true)).symm))))
        clear hown hbel hl hs
        go_wp2
        go_roundw
        case rel => exact ⟨j + 1, l, by omega, by go_num, H0.out.1, H0.out.2.1, Lib.hid H0.out.2.2⟩
        case measure => simp [intOf]; omega
      · have hl2 : l ++ [(j : Int)] = zl (sel (hasS Z) (j + 1)) := by rw [hs, if_pos rfl, zl_app, ← hl.out]; rfl
        have HL := Lib.hid hl2
        clear hl hs hl2
        go_wp2_with (at_builtin; refine wpList_append_own _ rfl _ _ 34 rfl w.heap.size 3 i0 (.int .i64 0) 1 8 Tryd.underlying34 hi hz0 hz1 hz2 rfl (by decide) _ _ _ rfl (hown.alloc _) ⟨wr.heap.size, 0, none⟩ 1 1 [.int .i64 (j : Int)] rfl rfl (cell_one_new _ _ _) (by simp [Value.oneCell']) (by unfold maxLen; omega) (by omega) (by have := hbel.size; simp; omega) ?_; intro v' w1 hown' hgrow hfr')
        go_roundw
        case rel => exact ⟨j + 1, l ++ [(j : Int)], by omega, by go_num, IRow.app hown', IRow.appBel hbel hown hgrow, HL⟩
        case measure => simp [intOf]; omega
    · obtain rfl : j = 256 := by omega
      have H0 := Lib.hid (And.intro hown (And.intro hbel hl.out))
      clear hown hbel hl
      go_wp2
      go_ret
      exact ⟨_, rfl, by rw [← H0.out.2.2]; exact H0.out.1, H0.out.2.1⟩
end
/-- Has the card that the slot i holds this ability? -/
def hasD (abs : List (List (Int × Int))) (H : List Int) (kd e : Int) (i : Nat) : Bool := (absOf abs (H.getD i 0 - 1)).any fun q => q.1 == kd && q.2 == e
def havingD (abs : List (List (Int × Int))) (H : List Int) (kd e : Int) : List Nat := if kx kd e = 0 then [] else sel (hasD abs H kd e) 256
theorem any_take {α : Type} (f : α → Bool) (l : List α) (k : Nat) (d : α) (h : k < l.length) : (l.take (k + 1)).any f = ((l.take k).any f || f (l.getD k d)) := by
  rw [List.take_succ_eq_append_getElem h, List.any_append, List.getD_eq_getElem?_getD, List.getElem?_eq_getElem h]
  simp
section
variable {w : World} {D : Nat} {u : Value} {H : List Int} {Z : List Nat} {S : Nat → Prop} {vs : List Value} {abs : List (List (Int × Int))}
set_option maxRecDepth 100000 in
set_option maxHeartbeats 1000000 in
theorem rhaving_no (w : World) (D : Nat) (kd e : Int) (hx : kx kd e = 0) : Calls Tryd.prog 27 #[.pointer (some ⟨D, 0, none⟩), .int .i64 kd, .int .i64 e] w fun e' w' => e' = .returned (.slice none 0 0) ∧ w = w' := by
  have hn : ¬ ((1 ≤ kd ∧ kd ≤ 5) ∧ (0 ≤ e ∧ e ≤ 6)) := fun h => by unfold kx at hx; rw [if_pos h] at hx; omega
  clear hx
  by_cases h1 : kd < 1
  · clear hn
    go_enter Tryd.func27, Tryd.ntmps27
    go_wp2
    go_ret
    exact ⟨rfl, rfl⟩
  · by_cases h2 : 5 < kd
    · clear hn
      go_enter Tryd.func27, Tryd.ntmps27
      go_wp2
      go_ret
      exact ⟨rfl, rfl⟩
    · by_cases h3 : e < 0
      · clear hn
        go_enter Tryd.func27, Tryd.ntmps27
        go_wp2
        go_ret
        exact ⟨rfl, rfl⟩
      · have h4 : 6 < e := by omega
        clear hn
        go_enter Tryd.func27, Tryd.ntmps27
        go_wp2
        go_ret
        exact ⟨rfl, rfl⟩
set_option maxRecDepth 100000 in
set_option maxHeartbeats 4000000 in
theorem rhaving_yes (h : DocAt w D u H Z) (hr : ∀ i, i < 256 → 0 ≤ H.getD i 0 ∧ H.getD i 0 ≤ 40) (hc : CardsAt w S u vs abs) (hS : ∀ k, S k → k < w.heap.size) (h5 : ∀ i, i < abs.length → (abs.getD i []).length ≤ 5) (kd e : Int) (h1 : ¬ kd < 1) (h2 : ¬ 5 < kd) (h3 : ¬ e < 0) (h4 : ¬ 6 < e) :
    Calls Tryd.prog 27 #[.pointer (some ⟨D, 0, none⟩), .int .i64 kd, .int .i64 e] w fun e' w' => ∃ v, e' = .returned v ∧ IRow w' w.heap.size v (zl (sel (hasD abs H kd e) 256)) ∧ Below w.heap.size w w' := by
  obtain ⟨i0, hi, hz0, hz1, hz2⟩ := info_parts infoI
  have HD := Lib.hid (And.intro h (And.intro hr (And.intro hc hS)))
  obtain ⟨ua, uc, hu, _⟩ := hc.form
  obtain ⟨al, hal⟩ : ∃ al, abs.length = al := ⟨_, rfl⟩
  rw [hal] at hu
  have HU := Lib.hid (And.intro hu hal)
  clear h hr hc hS hal hu
  go_enter Tryd.func27, Tryd.ntmps27
  go_wp2
  clear h1 h2 h3 h4
  go_loopw [7, 8] (fun v i wr => ∃ (j : Nat) (l : List Int), j ≤ 256 ∧ i = .int .i64 j ∧ IRow wr w.heap.size v l ∧ Below w.heap.size w wr ∧ Hid (l = zl (sel (hasD abs H kd e) j))) (fun _ i _ => 256 - (intOf i).toNat)
  case atStart => exact ⟨0, [], Nat.zero_le _, rfl, IRow.nil _ _, Below.refl _ _, Lib.hid rfl⟩
  case round =>
    obtain ⟨j, l, hj, rfl, hown, hbel, hl⟩ := hrel
    by_cases hlt : j < 256
    · have hDw := HD.out.1.below hbel
      have hCw := HD.out.2.2.1.block (fun k hk => hbel.block k (HD.out.2.2.2 k hk))
      have HC := Lib.hid (rcard_any hDw HD.out.2.1 (j : Int))
      have hcd : cardD (j : Int) H = H.getD j 0 - 1 := by unfold cardD; rw [if_pos ⟨by omega, by omega⟩, Int.toNat_natCast]
      have hsel := sel_succ (hasD abs H kd e) j
      obtain ⟨cd, hcd'⟩ : ∃ cd, H.getD j 0 - 1 = cd := ⟨_, rfl⟩
      have hhas : hasD abs H kd e j = (absOf abs cd).any (fun q => q.1 == kd && q.2 == e) := by unfold hasD; rw [hcd']
      rw [hcd, hcd'] at HC
      have hrc := HD.out.2.1 j hlt
      have hcd1 : -1 ≤ cd ∧ cd ≤ 39 := by omega
      rw [hhas] at hsel
      have hll : l.length ≤ 256 := by rw [hl.out, zl_len]; have := sel_len (hasD abs H kd e) j; omega
      have c0 : wr.cell? ⟨D, 0, none⟩ = some (.slice ua al uc) := by rw [hDw.2.cell]; exact congrArg some HU.out.1
      have HW := Lib.hid (And.intro hown (And.intro hbel (And.intro hl.out (And.intro hsel hCw))))
      have j0 : (0 : Int) ≤ j := by omega
      have j1 : (j : Int) < 256 := by omega
      clear hl hsel hhas hcd hcd' hrc hDw hCw hbel hown
      go_wp2_with (go_at_call 21; refine HC.out.mono ?_; rintro e w' ⟨rfl, rfl⟩)
      obtain ⟨ks, hks⟩ : ∃ ks, absOf abs cd = ks := ⟨_, rfl⟩
      have hk5 : ks.length ≤ 5 := by
        rw [← hks]; unfold absOf; split
        · exact h5 _ (by omega)
        · simp
      go_loopw [10, 11] (fun b x W => ∃ (k : Nat) (bb : Bool), k ≤ ks.length ∧ x = .int .i64 k ∧ b = .bool bb ∧ wr = W ∧ Hid ((ks.take k).any (fun q => q.1 == kd && q.2 == e) = bb)) (fun _ x _ => ks.length - (intOf x).toNat)
      case atStart => exact ⟨0, false, Nat.zero_le _, rfl, rfl, rfl, Lib.hid rfl⟩
      case round =>
        obtain ⟨k, bb, hk, rfl, rfl, rfl, hbb⟩ := hrel
        by_cases hin : (0 ≤ cd ∧ cd < al) ∧ k < ks.length
        · obtain ⟨⟨cd0, cd2⟩, hkl⟩ := hin
          obtain ⟨cn, rfl⟩ := Int.eq_ofNat_of_zero_le cd0
          have hcn : cn < abs.length := by rw [HU.out.2]; omega
          have hks2 : abs.getD cn [] = ks := by rw [← hks]; unfold absOf; rw [if_pos ⟨by omega, by omega⟩, Int.toNat_natCast]
          obtain ⟨q1, q2, q3, q4⟩ := HW.out.2.2.2.2
          obtain ⟨g, gc, e1, _, e2⟩ := q2.cell (i := cn) (by omega)
          have hr4 := (q4 cn hcn).1
          rw [hks2] at hr4
          obtain ⟨g2, gc2, e3, _, e4⟩ := hr4.cell hkl
          rw [HU.out.1] at e1
          injection e1 with e1 _ _
          subst e1
          have d10 : wr.cell? ⟨g, cn * 11 + 10, none⟩ = some (.slice (some ⟨g2, 0, none⟩) ks.length gc2) := (e2 10 (by omega)).trans (congrArg some e3)
          have hany := any_take (fun q : Int × Int => q.1 == kd && q.2 == e) ks k (0, 0) hkl
          rw [hbb.out] at hany
          obtain ⟨⟨y0, y1⟩, hy⟩ : ∃ y, ks.getD k (0, 0) = y := ⟨_, rfl⟩
          rw [hy] at e4 hany
          have d0 : wr.cell? ⟨g2, k * 13, none⟩ = some (.int .i64 y0) := e4 0 (by omega)
          have d1 : wr.cell? ⟨g2, k * 13 + 1, none⟩ = some (.int .i64 y1) := e4 1 (by omega)
          have k0 : (0 : Int) ≤ k := by omega
          have k1 : (k : Int) < ks.length := by omega
          have n0 : ¬ ((cn : Int) < 0) := by omega
          have HA := Lib.hid hany
          clear q1 q2 q3 q4 e2 e3 e4 hr4 hks hks2 hcn hany hy hbb
          cases bb
          · by_cases hy0 : y0 = kd
            · by_cases hy1 : y1 = e
              · go_wp2
                go_roundw
                case rel => exact ⟨k + 1, true, by omega, by go_num, rfl, trivial, Lib.hid (by rw [HA.out, hy0, hy1]; simp)⟩
                case measure => simp [intOf]; omega
              · go_wp2
                go_roundw
                case rel => exact ⟨k + 1, false, by omega, by go_num, by first | rfl | simp [hy1], trivial, Lib.hid (by rw [HA.out]; simp [hy1])⟩
                case measure => simp [intOf]; omega
            · go_wp2
              go_roundw
              case rel => exact ⟨k + 1, false, by omega, by go_num, by first | rfl | simp [hy0], trivial, Lib.hid (by rw [HA.out]; simp [hy0])⟩
              case measure => simp [intOf]; omega
          · go_wp2
            go_roundw
            case rel => exact ⟨k + 1, true, by omega, by go_num, rfl, trivial, Lib.hid (by rw [HA.out]; rfl)⟩
            case measure => simp [intOf]; omega
        · have HB : Hid (ks.any (fun q => q.1 == kd && q.2 == e) = bb ∧ (cd < 0 ∨ (0 ≤ cd ∧ ¬ cd < al) ∨ ∃ cn : Nat, cd = cn ∧ cn < al ∧ k = ks.length)) := Lib.hid (by
            by_cases hcv : 0 ≤ cd ∧ cd < al
            · have hkk : k = ks.length := by
                have : ¬ k < ks.length := fun h => hin ⟨hcv, h⟩
                omega
              refine ⟨by rw [← hbb.out, hkk, List.take_length], .inr (.inr ⟨cd.toNat, by omega, by omega, hkk⟩)⟩
            · have : ks = [] := by rw [← hks]; unfold absOf; rw [HU.out.2, if_neg hcv]
              subst this
              refine ⟨by rw [← hbb.out]; simp, ?_⟩
              by_cases h0 : cd < 0
              · exact .inl h0
              · exact .inr (.inl ⟨by omega, fun h => hcv ⟨by omega, h⟩⟩))
          have HN : Hid (sel (hasD abs H kd e) (j + 1) = if bb then sel (hasD abs H kd e) j ++ [j] else sel (hasD abs H kd e) j) := Lib.hid (by rw [HW.out.2.2.2.1, hks, HB.out.1])
          have HE : ∀ cn : Nat, cd = cn → cn < al → ∃ g g2 gc2, ua = some ⟨g, 0, none⟩ ∧ wr.cell? ⟨g, cn * 11 + 10, none⟩ = some (.slice g2 ks.length gc2) := fun cn hcn hlt => by
            obtain ⟨q1, q2, q3, q4⟩ := HW.out.2.2.2.2
            have hcn' : cn < abs.length := by rw [HU.out.2]; omega
            have hks2 : abs.getD cn [] = ks := by rw [← hks, hcn]; unfold absOf; rw [if_pos ⟨by omega, by omega⟩, Int.toNat_natCast]
            obtain ⟨g, gc, e1, _, e2⟩ := q2.cell (i := cn) (by omega)
            rw [HU.out.1] at e1
            injection e1 with e1 _ _
            have hr4 := (q4 cn hcn').1
            rw [hks2] at hr4
            obtain ⟨g2, gc2, e3, _⟩ := own_form' hr4
            exact ⟨g, g2, gc2, e1, (e2 10 (by omega)).trans (congrArg some e3)⟩
          have hway := HB.out.2
          have hown := HW.out.1
          have hbel := HW.out.2.1
          have HL := Lib.hid HW.out.2.2.1
          clear hin hbb hks HW HB
          cases bb
          · have HL2 : Hid (l = zl (sel (hasD abs H kd e) (j + 1))) := Lib.hid (by rw [HN.out, if_neg Bool.false_ne_true]; exact HL.out)
            have HO := Lib.hid (And.intro hown hbel)
            clear hown hbel HL HN
            rcases hway with hcd | ⟨hcd, hcd2⟩ | ⟨cn, rfl, hcn, rfl⟩
            · clear HE
              have n0 : ¬ 0 ≤ cd := by omega
              go_wp2
              go_roundw
              case rel => exact ⟨j + 1, l, by omega, by go_num, HO.out.1, HO.out.2, HL2⟩
              case measure => simp [intOf]; omega
            · clear HE
              go_wp2
              go_roundw
              case rel => exact ⟨j + 1, l, by omega, by go_num, HO.out.1, HO.out.2, HL2⟩
              case measure => simp [intOf]; omega
            · obtain ⟨g, g2, gc2, rfl, d10⟩ := HE cn rfl hcn
              have k0 : (0 : Int) ≤ cn := by omega
              have k1 : (cn : Int) < al := by omega
              have n0 : ¬ ((cn : Int) < 0) := by omega
              have n1 : ¬ ((ks.length : Int) < ks.length) := by omega
              clear HE
              go_wp2
              go_roundw
              case rel => exact ⟨j + 1, l, by omega, by go_num, HO.out.1, HO.out.2, HL2⟩
              case measure => simp [intOf]; omega
          · have HL2 : Hid (l ++ [(j : Int)] = zl (sel (hasD abs H kd e) (j + 1))) := Lib.hid (by rw [HN.out, if_pos rfl, zl_app, ← HL.out]; rfl)
            clear HL HN
            rcases hway with hcd | ⟨hcd, hcd2⟩ | ⟨cn, rfl, hcn, rfl⟩
            · clear HE
              have n0 : ¬ 0 ≤ cd := by omega
              go_wp2_with (at_builtin; refine wpList_append_own _ rfl _ _ 34 rfl w.heap.size 3 i0 (.int .i64 0) 1 8 Tryd.underlying34 hi hz0 hz1 hz2 rfl (by decide) _ _ _ rfl (hown.alloc _) ⟨wr.heap.size, 0, none⟩ 1 1 [.int .i64 (j : Int)] rfl rfl (cell_one_new _ _ _) (by simp [Value.oneCell']) (by unfold maxLen; omega) (by omega) (by have := hbel.size; simp; omega) ?_; intro v' w1 hown' hgrow hfr')
              go_roundw
              case rel => exact ⟨j + 1, l ++ [(j : Int)], by omega, by go_num, IRow.app hown', IRow.appBel hbel hown hgrow, HL2⟩
              case measure => simp [intOf]; omega
            · clear HE
              go_wp2_with (at_builtin; refine wpList_append_own _ rfl _ _ 34 rfl w.heap.size 3 i0 (.int .i64 0) 1 8 Tryd.underlying34 hi hz0 hz1 hz2 rfl (by decide) _ _ _ rfl (hown.alloc _) ⟨wr.heap.size, 0, none⟩ 1 1 [.int .i64 (j : Int)] rfl rfl (cell_one_new _ _ _) (by simp [Value.oneCell']) (by unfold maxLen; omega) (by omega) (by have := hbel.size; simp; omega) ?_; intro v' w1 hown' hgrow hfr')
              go_roundw
              case rel => exact ⟨j + 1, l ++ [(j : Int)], by omega, by go_num, IRow.app hown', IRow.appBel hbel hown hgrow, HL2⟩
              case measure => simp [intOf]; omega
            · obtain ⟨g, g2, gc2, rfl, d10⟩ := HE cn rfl hcn
              have k0 : (0 : Int) ≤ cn := by omega
              have k1 : (cn : Int) < al := by omega
              have n0 : ¬ ((cn : Int) < 0) := by omega
              have n1 : ¬ ((ks.length : Int) < ks.length) := by omega
              clear HE
              go_wp2_with (at_builtin; refine wpList_append_own _ rfl _ _ 34 rfl w.heap.size 3 i0 (.int .i64 0) 1 8 Tryd.underlying34 hi hz0 hz1 hz2 rfl (by decide) _ _ _ rfl (hown.alloc _) ⟨wr.heap.size, 0, none⟩ 1 1 [.int .i64 (j : Int)] rfl rfl (cell_one_new _ _ _) (by simp [Value.oneCell']) (by unfold maxLen; omega) (by omega) (by have := hbel.size; simp; omega) ?_; intro v' w1 hown' hgrow hfr')
              go_roundw
              case rel => exact ⟨j + 1, l ++ [(j : Int)], by omega, by go_num, IRow.app hown', IRow.appBel hbel hown hgrow, HL2⟩
              case measure => simp [intOf]; omega
    · obtain rfl : j = 256 := by omega
      have H0 := Lib.hid (And.intro hown (And.intro hbel hl.out))
      clear hown hbel hl
      go_wp2
      go_ret
      exact ⟨_, rfl, by rw [← H0.out.2.2]; exact H0.out.1, H0.out.2.1⟩
theorem rhaving_any (h : DocAt w D u H Z) (hr : ∀ i, i < 256 → 0 ≤ H.getD i 0 ∧ H.getD i 0 ≤ 40) (hc : CardsAt w S u vs abs) (hS : ∀ k, S k → k < w.heap.size) (h5 : ∀ i, i < abs.length → (abs.getD i []).length ≤ 5) (kd e : Int) :
    Calls Tryd.prog 27 #[.pointer (some ⟨D, 0, none⟩), .int .i64 kd, .int .i64 e] w fun e' w' => ∃ v, e' = .returned v ∧ IRow w' w.heap.size v (zl (havingD abs H kd e)) ∧ Below w.heap.size w w' := by
  unfold havingD
  by_cases hx : kx kd e = 0
  · rw [if_pos hx]
    exact (rhaving_no w D kd e hx).mono fun e' w' ⟨h1, h2⟩ => ⟨_, h1, by subst h2; exact IRow.nil _ _, by subst h2; exact Below.refl _ _⟩
  · rw [if_neg hx]
    have hv : (1 ≤ kd ∧ kd ≤ 5) ∧ (0 ≤ e ∧ e ≤ 6) := Classical.byContradiction fun h => hx (by unfold kx; rw [if_neg h])
    exact rhaving_yes h hr hc hS h5 kd e (by omega) (by omega) (by omega) (by omega)
end
/-! What the index answers is the document's answer. -/
theorem hasK_has (ks : List (Int × Int)) (kd e : Int) (h : kx kd e ≠ 0) : hasK ks (kx kd e) = ks.any (fun q => q.1 == kd && q.2 == e) := by
  unfold hasK
  induction ks with
  | nil => rfl
  | cons q ks ih =>
    rw [List.any_cons, List.any_cons, ih]
    congr 1
    rw [Bool.eq_iff_iff]
    simp only [beq_iff_eq, Bool.and_eq_true]
    constructor
    · intro h2
      obtain ⟨a, b⟩ := kx_inj h2.symm h
      exact ⟨a.symm, b.symm⟩
    · rintro ⟨a, b⟩
      rw [a, b]
theorem having_same {abs : List (List (Int × Int))} {m : IM} (h : IGood abs m) (kd e : Int) : lst (havingI kd e m) = havingD abs m.H kd e := by
  unfold havingI havingD
  by_cases hx : kx kd e = 0
  · rw [if_pos hx, if_pos hx]; decide
  · rw [if_neg hx, if_neg hx, lst_sel]
    refine sel_same 256 fun i hi => ?_
    rw [h.has (kx kd e) (by omega) (kx_lt kd e) i hi, hasK_has _ kd e hx]
    rfl
theorem card_same (s : Int) (m : IM) : cardI s m = cardD s m.H := rfl
end
section
open Go.RowKit
attribute [local irreducible] Calls

def z4 : List Nat := [0, 0, 0, 0]
def docZ (u : Value) : List Value := docC u (List.replicate 256 0) z4
theorem infoD : (Tryd.prog.info? 33).map (fun i => (i.zero, i.size, i.bytes)) = some (some (.agg (docZ (.slice none 0 0)).toArray), 513, 2328) := by kernel_rfl
theorem sizeD : (Tryd.prog.info? 33).map (·.size) = some 513 := by kernel_rfl
theorem doc_one {u : Value} (hu : u.oneCell' = true) (H : List Int) (Z : List Nat) : ∀ v ∈ docC u H Z, v.oneCell' = true := by
  intro v hv
  unfold docC at hv
  rcases List.mem_cons.1 hv with rfl | hv
  · exact hu
  · rcases List.mem_append.1 hv with hv | hv
    · obtain ⟨x, _, rfl⟩ := List.mem_map.1 hv; rfl
    · obtain ⟨x, _, rfl⟩ := List.mem_map.1 hv; rfl
section
variable {P : Program} {ops : Array Oper} {rest : List Oper} {o : Oper} {a : Act} {w : World} {Q : Exit → Act → World → Prop}
/-- An operation whose value is known. -/
theorem wpList_val (hg : o.guard = none) (v : Value) (w' : World) (hrun : (execOp a.eval o).run P w = .ok (.value v) w') (h : wpList P ops Q rest (a.put o.dst v) w') : wpList P ops Q (o :: rest) a w := by
  refine wpList_plain hg fun K hK => ?_
  unfold Oper.wp
  rw [hrun]
  exact hK _ _ h
theorem wpList_mv (hg : o.guard = none) (x : Operand) (ho : o.op = .move x) (h : wpList P ops Q rest (a.put o.dst (a.eval x)) w) : wpList P ops Q (o :: rest) a w :=
  wpList_val hg _ w (by unfold execOp; rw [ho]; rfl) h
theorem wpList_as (hg : o.guard = none) (x : Operand) (ho : o.op = .assign x) (h : wpList P ops Q rest (a.put o.dst (a.eval x)) w) : wpList P ops Q (o :: rest) a w :=
  wpList_val hg _ w (by unfold execOp; rw [ho]; rfl) h
/-- A whole struct out of cells wherever they lie. -/
theorem run_load_cells (ty : TypeId) (ad : Addr) (cs : List Value) (d : TypeDesc)
    (hu : P.underlying ty = some d) (hd : (match d with | .struct _ | .array _ _ => true | _ => false) = true) (hi : (P.info? ty).map (·.size) = some cs.length) (hc : ∀ j v, cs[j]? = some v → w.cell? (ad.add j) = some v) :
    (Instr.loadAt ty (.pointer (some ad))).run P w = .ok (.agg cs.toArray) w := by
  have hl := run_loadCells_list (P := P) w ad cs hc
  have hagg : (isAgg ty).run P w = .ok true w := by
    unfold isAgg
    rw [Sem.run_bind, run_underlying hu w]
    cases d <;> simp_all
  cases hq : P.info? ty with
  | none => simp [hq] at hi
  | some i =>
    have hs : i.size = cs.length := by simpa [hq] using hi
    simp [Instr.loadAt, Instr.sureAddr, loadVar, Sem.run_bind, hagg, sizeOf, typeInfo, hq, hs, hl]
theorem wp_load_cells {K : Act → World → Prop} (ty : TypeId) (x : Operand) (ho : o.op = .load ty x) (ad : Addr) (hx : a.eval x = .pointer (some ad)) (cs : List Value) (d : TypeDesc)
    (hu : P.underlying ty = some d) (hd : (match d with | .struct _ | .array _ _ => true | _ => false) = true) (hi : (P.info? ty).map (·.size) = some cs.length) (hc : ∀ j v, cs[j]? = some v → w.cell? (ad.add j) = some v)
    (h : K (a.put o.dst (.agg cs.toArray)) w) : o.wp P a w K Q := by
  unfold Oper.wp execOp
  simp only [ho, hx, Sem.run_bind, run_load_cells ty ad cs d hu hd hi hc, Sem.run_pure, Result.andThen_ok]
  exact h
theorem wpList_load_cells (hg : o.guard = none) (ty : TypeId) (x : Operand) (ho : o.op = .load ty x) (ad : Addr) (hx : a.eval x = .pointer (some ad)) (cs : List Value) (d : TypeDesc)
    (hu : P.underlying ty = some d) (hd : (match d with | .struct _ | .array _ _ => true | _ => false) = true) (hi : (P.info? ty).map (·.size) = some cs.length) (hc : ∀ j v, cs[j]? = some v → w.cell? (ad.add j) = some v)
    (h : wpList P ops Q rest (a.put o.dst (.agg cs.toArray)) w) : wpList P ops Q (o :: rest) a w :=
  wpList_plain hg fun _ hK => wp_load_cells ty x ho ad hx cs d hu hd hi hc (hK _ _ h)
end
theorem setRow_moved {w : World} {B : Nat} {t : TypeId} {vs : List Value} (h : Arr w B t vs) (cs : List Value) : Arr (w.setRow B cs.toArray) B t cs ∧ Moved w (w.setRow B cs.toArray) (fun k => k = B) :=
  ⟨setRow_heap w B _ _ t (0, 0) h, ⟨rfl, rfl, rfl, by simp, fun k _ hk => setRow_other w B k _ hk⟩⟩
theorem zerosD : Tryd.zeroCells33 = (docZ (.slice none 0 0)).toArray := by kernel_rfl
theorem docZ_set (u v : Value) : (docZ u).set 0 v = docZ v := rfl
theorem docZ_len (u : Value) : (docZ u).length = 513 := docC_len u z4 List.length_replicate
/-- A record of zeros is laid with its cards. -/
theorem store_zero (w : World) (u : Value) (hu : u.oneCell' = true) : Sem.run Tryd.prog (storeCells ⟨w.heap.size, 0, none⟩ (Tryd.zeroCells33.toList.set 0 u)) (w.alloc (.cells Tryd.zeroCells33 33)) = .ok () (w.alloc (.cells (docZ u).toArray 33)) := by
  rw [zerosD]
  have := run_storeCells_new (P := Tryd.prog) w 33 (docZ (.slice none 0 0)).toArray (docZ u).toArray (by rw [sizeD]; simp [docZ_len]) (by simp [docZ_len]) (by
    rw [Array.all_eq_true_iff_forall_mem]
    intro v hv
    exact doc_one hu (List.replicate 256 0) z4 v (List.mem_toArray.1 hv))
  exact this
/-- One record as a slice's only element. -/
theorem fill_doc (cs : List Value) (hl : cs.length = 513) (z : Array Value) (hz : z.size = 513) : Instr.fill (fun i => some (i * 513, 513)) z [(0, .agg cs.toArray)] = some cs.toArray := by
  have := Go.Great.fill_whole (s := 513) (by omega) [.agg cs.toArray] z (by intro v hv; rw [List.mem_singleton.1 hv]; simpa [Value.cells] using hl) (by simp [hz])
  simpa [Value.cells] using this
end
section
open Go.RowKit
attribute [local irreducible] Calls

/-- An own row of the colour c. -/
def RwC (w : World) (col : Nat → Nat) (c base : Nat) (e : TypeId) (size : Nat) (v : Value) (n : Nat) (xs : List Value) : Prop := w.ownsRow base e size v n xs ∧ ∀ k, v.ownBlock = some k → col k = c
section
variable {w w' : World} {col : Nat → Nat} {c a base : Nat} {e : TypeId} {size n : Nat} {v : Value} {xs : List Value}
theorem RwC.nil (w : World) (col : Nat → Nat) (c base : Nat) (e : TypeId) (size : Nat) : RwC w col c base e size (.slice none 0 0) 0 [] := ⟨World.ownsRow_nil _ _ _ _, fun k h => by cases h⟩
theorem RwC.step {S : Nat → Prop} (h : RwC w col c base e size v n xs) (hm : Moved w w' S) (hS : ∀ k, S k → k < w.heap.size → col k = a) (hne : c ≠ a) : RwC w' (recol w.heap.size col a) c base e size v n xs := by
  refine ⟨ownsRow_block h.1 fun k hk => ?_, fun k hk => (recol_lt (World.ownsRow.lt h.1 k hk).2).trans (h.2 k hk)⟩
  have hl := (World.ownsRow.lt h.1 k hk).2
  exact hm.block k hl (fun hs => hne ((h.2 k hk).symm.trans (hS k hs hl)))
theorem RwC.made (a : Nat) (h : RwC w col c base e size v n xs) (hb : Below w.heap.size w w') : RwC w' (recol w.heap.size col a) c base e size v n xs :=
  ⟨ownsRow_block h.1 fun k hk => hb.block k (World.ownsRow.lt h.1 k hk).2, fun k hk => (recol_lt (World.ownsRow.lt h.1 k hk).2).trans (h.2 k hk)⟩
theorem RwC.grew {v' : Value} {n' : Nat} {xs' : List Value} (h : RwC w col c base e size v n xs) (hw : w'.ownsRow base e size v' n' xs') (hf : ∀ k, v'.ownBlock = some k → v.ownBlock = some k ∨ w.heap.size ≤ k) : RwC w' (recol w.heap.size col c) c base e size v' n' xs' :=
  ⟨hw, fun k hk => (hf k hk).elim (fun h1 => (recol_lt (World.ownsRow.lt h.1 k h1).2).trans (h.2 k h1)) (fun h1 => recol_ge h1)⟩
theorem mv_grown {r : Option Nat} (h : w.grownBy w' r) : Moved w w' (fun k => r = some k) := Moved.of_grown h (fun _ e => e)
theorem own_bs (h : w.ownsRow base e size v n xs) : ∀ k, v.ownBlock = some k → base ≤ k := fun k hk => (World.ownsRow.lt h k hk).1
end
/-- The index, the record's block, the cards' rows. -/
structure PG where
  b : IB
  D : Nat
  u : Value
  vs : List Value
  S : Nat → Prop
structure PZ where
  k : Nat
  q : List Int × List (Int × Int)
  m : IM
  md : IM
  kv : Value
  ks : List Int
  sv : Value
  ss : List IM
  X : Nat
  xs : List Value
/-- A record's cells. -/
def docM (u : Value) (m : IM) : List Value := docC u m.H (m.Z 0)
theorem docM_len {u : Value} {abs : List (List (Int × Int))} {m : IM} (h : IGood abs m) : (docM u m).length = 513 := docC_len u _ h.len
structure PX (x : Nat) (w0 w : World) (col : Nat → Nat) (g : PG) (s : PZ) : Prop where
  bel : Below w0.heap.size w0 w
  i : x ≠ 1 → IS w0 w col 1 g.b s.k s.q s.m
  c : CardsAt w g.S g.u g.vs g.b.abs ∧ ∀ j, g.S j → j < w.heap.size ∧ col j = 2
  d : x ≠ 3 → (Arr w g.D 33 (docM g.u s.md) ∧ w0.heap.size ≤ g.D) ∧ col g.D = 3
  mr : x ≠ 5 → RwC w col 5 w0.heap.size 3 1 s.kv s.ks.length (s.ks.map (Value.int .i64))
  sv : x ≠ 6 → RwC w col 6 w0.heap.size 33 513 s.sv s.ss.length (s.ss.flatMap (docM g.u))
  bx : x ≠ 7 → Arr w s.X 37 s.xs ∧ col s.X = 7
def QX (w0 w : World) (g : PG) (s : PZ) : Prop := IGood g.b.abs s.m ∧ IGood g.b.abs s.md ∧ ∃ col, PX 0 w0 w col g s
section
variable {w0 w w' : World} {col : Nat → Nat} {n : Nat} {g : PG} {s : PZ} {S : Nat → Prop}
theorem PX.step {a : Nat} (h : PX 0 w0 w col g s) (hbel : Below w0.heap.size w0 w') (hm : Moved w w' S) (hS : ∀ k, S k → k < w.heap.size → col k = a) (h2 : a ≠ 2) (ha : a ≠ 1 → IS w0 w' (recol w.heap.size col a) 1 g.b s.k s.q s.m) : PX a w0 w' (recol w.heap.size col a) g s := by
  have hx := h.bx (by decide)
  have hd := h.d (by decide)
  refine ⟨hbel, ha, ⟨h.c.1.block fun k hk => ?_, fun j hj => ?_⟩, fun hn => ⟨⟨?_, hd.1.2⟩, (recol_lt hd.1.1.lt).trans hd.2⟩, fun hn => (h.mr (by decide)).step hm hS (Ne.symm hn), fun hn => (h.sv (by decide)).step hm hS (Ne.symm hn), fun hn => ⟨?_, (recol_lt hx.1.lt).trans hx.2⟩⟩
  · have hc := h.c.2 k hk
    exact hm.block k hc.1 fun hs => h2 ((hS k hs hc.1).symm.trans hc.2)
  · have hc := h.c.2 j hj
    exact ⟨Nat.lt_of_lt_of_le hc.1 hm.size, (recol_lt hc.1).trans hc.2⟩
  · exact (hm.block g.D hd.1.1.lt fun hs => hn ((hS g.D hs hd.1.1.lt).symm.trans hd.2)).trans hd.1.1
  · exact (hm.block s.X hx.1.lt fun hs => hn ((hS s.X hs hx.1.lt).symm.trans hx.2)).trans hx.1
theorem PX.moved {a : Nat} (h : PX 0 w0 w col g s) (hm : Moved w w' S) (hS : ∀ k, S k → k < w.heap.size → col k = a) (h2 : a ≠ 2) (hb : ∀ k, S k → w0.heap.size ≤ k) : PX a w0 w' (recol w.heap.size col a) g s :=
  h.step (h.bel.trans (hm.below hb h.bel.size)) hm hS h2 fun hn => (h.i (by decide)).moved hm hS hb (Ne.symm hn)
theorem PX.made (a : Nat) (h : PX 0 w0 w col g s) (hb : Below w.heap.size w w') : PX 0 w0 w' (recol w.heap.size col a) g s := by
  have hx := h.bx (by decide)
  have hd := h.d (by decide)
  exact ⟨fb_call h.bel hb, fun _ => (h.i (by decide)).below hb a, ⟨h.c.1.block fun k hk => hb.block k (h.c.2 k hk).1, fun j hj => ⟨Nat.lt_of_lt_of_le (h.c.2 j hj).1 hb.size, (recol_lt (h.c.2 j hj).1).trans (h.c.2 j hj).2⟩⟩,
    fun _ => ⟨⟨(hb.block _ hd.1.1.lt).trans hd.1.1, hd.1.2⟩, (recol_lt hd.1.1.lt).trans hd.2⟩, fun _ => (h.mr (by decide)).made a hb, fun _ => (h.sv (by decide)).made a hb, fun _ => ⟨(hb.block _ hx.1.lt).trans hx.1, (recol_lt hx.1.lt).trans hx.2⟩⟩
theorem QX.bel (h : QX w0 w g s) : Below w0.heap.size w0 w := by obtain ⟨_, _, _, h⟩ := h; exact h.bel
theorem QX.box (h : QX w0 w g s) : Arr w s.X 37 s.xs := by obtain ⟨_, _, _, h⟩ := h; exact (h.bx (by decide)).1
theorem QX.marks (h : QX w0 w g s) : IRow w w0.heap.size s.kv s.ks := by obtain ⟨_, _, _, h⟩ := h; exact (h.mr (by decide)).1
theorem QX.saved (h : QX w0 w g s) : w.ownsRow w0.heap.size 33 513 s.sv s.ss.length (s.ss.flatMap (docM g.u)) := by obtain ⟨_, _, _, h⟩ := h; exact (h.sv (by decide)).1
theorem QX.below (h : QX w0 w g s) (hb : Below w.heap.size w w') : QX w0 w' g s := by obtain ⟨h1, h2, _, h⟩ := h; exact ⟨h1, h2, _, h.made 0 hb⟩
theorem QX.mono {k' : Nat} (h : QX w0 w g s) (hk : s.k ≤ k') : QX w0 w g { s with k := k' } := by
  obtain ⟨h1, h2, _, h⟩ := h
  exact ⟨h1, h2, _, h.bel, fun _ => (h.i (by decide)).mono hk, h.c, h.d, h.mr, h.sv, h.bx⟩
theorem QX.hist {q' : List Int × List (Int × Int)} (h : QX w0 w g s) (hh : Hist q' s.q) : QX w0 w g { s with q := q' } := by
  obtain ⟨h1, h2, _, h⟩ := h
  exact ⟨h1, h2, _, h.bel, fun _ => (h.i (by decide)).ofHist hh, h.c, h.d, h.mr, h.sv, h.bx⟩
theorem QX.doc (h : QX w0 w g s) : DocAt w g.D g.u s.md.H (s.md.Z 0) := by obtain ⟨_, h2, _, h⟩ := h; exact ⟨h2.len, (h.d (by decide)).1.1⟩
/-! The index. -/
theorem PX.onI {k' : Nat} {q' : List Int × List (Int × Int)} {m' : IM} (h : PX 0 w0 w col g s) (hd : IGood g.b.abs s.md) (hN : ISN w0 w w' col 1 g.b k' q' m') (hg : IGood g.b.abs m') : QX w0 w' g { s with k := k', q := q', m := m' } := by
  have k := h.step (a := 1) hN.1.bel hN.2 (fun k hk _ => hk) (by decide) (fun hn => absurd rfl hn)
  exact ⟨hg, hd, _, k.bel, fun _ => hN.1, k.c, fun _ => k.d (by decide), fun _ => k.mr (by decide), fun _ => k.sv (by decide), fun _ => k.bx (by decide)⟩
theorem x_put (h : QX w0 w g s) (hk : s.k ≤ 700000000) (z cd : Int) : Calls Tryd.prog 18 #[.pointer (some ⟨g.b.X, 0, none⟩), .int .i64 z, .int .i64 cd] w fun e w' => e = .returned (.tuple #[]) ∧ QX w0 w' g { s with k := s.k + 60, m := putI g.b.abs z cd s.m } := by
  obtain ⟨h1, h2, _, h⟩ := h
  exact (put_any (h.i (by decide)) h1 (by omega) z cd).mono fun e w' ⟨he, hN⟩ => ⟨he, h.onI h2 hN (good_put h1 z cd)⟩
theorem x_take (h : QX w0 w g s) (hk : s.k ≤ 700000000) (z : Int) : Calls Tryd.prog 11 #[.pointer (some ⟨g.b.X, 0, none⟩), .int .i64 z] w fun e w' => e = .returned (.tuple #[]) ∧ QX w0 w' g { s with k := s.k + 110, m := takeI g.b.abs z s.m } := by
  obtain ⟨h1, h2, _, h⟩ := h
  exact (take_any (h.i (by decide)) h1 hk z).mono fun e w' ⟨he, hN⟩ => ⟨he, h.onI h2 hN (good_take h1 z)⟩
theorem x_touch (h : QX w0 w g s) (hk : s.k ≤ 700000000) (z : Int) : Calls Tryd.prog 13 #[.pointer (some ⟨g.b.X, 0, none⟩), .int .i64 z] w fun e w' => e = .returned (.tuple #[]) ∧ QX w0 w' g { s with k := s.k + 60, m := touchI z s.m } := by
  obtain ⟨h1, h2, _, h⟩ := h
  exact (touch_any (h.i (by decide)) (by omega) z).mono fun e w' ⟨he, hN⟩ => ⟨he, h.onI h2 hN (good_touch h1 z)⟩
theorem x_clear (h : QX w0 w g s) (hk : s.k ≤ 700000000) (z : Int) : Calls Tryd.prog 15 #[.pointer (some ⟨g.b.X, 0, none⟩), .int .i64 z] w fun e w' => e = .returned (.tuple #[]) ∧ QX w0 w' g { s with k := s.k + 60, m := clearI z s.m } := by
  obtain ⟨h1, h2, _, h⟩ := h
  exact (clear_any (h.i (by decide)) (by omega) z).mono fun e w' ⟨he, hN⟩ => ⟨he, h.onI h2 hN (good_clear h1 z)⟩
theorem x_card (h : QX w0 w g s) (z : Int) : Calls Tryd.prog 20 #[.pointer (some ⟨g.b.X, 0, none⟩), .int .i64 z] w fun e w' => e = .returned (.int .i64 (cardI z s.m)) ∧ Below w.heap.size w w' := by
  obtain ⟨h1, h2, _, h⟩ := h
  exact (icard_any (h.i (by decide)) h1 z).mono fun e w' ⟨he, n, hw⟩ => ⟨he, by rw [← hw]; exact fb_drewN (Below.refl _ _) n⟩
theorem x_having (h : QX w0 w g s) (kd e : Int) (hw : wf2 kd e) : Calls Tryd.prog 26 #[.pointer (some ⟨g.b.X, 0, none⟩), .int .i64 kd, .int .i64 e] w fun e' w' => e' = .returned (svL (havingI kd e s.m)) ∧ Below w.heap.size w w' := by
  obtain ⟨h1, h2, _, h⟩ := h
  exact having_any (h.i (by decide)) kd e hw
theorem x_touched (h : QX w0 w g s) : Calls Tryd.prog 23 #[.pointer (some ⟨g.b.X, 0, none⟩)] w fun e' w' => e' = .returned (svL (s.m.Z 0)) ∧ Below w.heap.size w w' := by
  obtain ⟨h1, h2, _, h⟩ := h
  exact touched_yes (h.i (by decide))
theorem x_mark (h : QX w0 w g s) : Calls Tryd.prog 16 #[.pointer (some ⟨g.b.T, 0, none⟩)] w fun e w' => ∃ q' x, e = .returned (.int .i64 x) ∧ IMark g.b s.k q' s.m x ∧ QX w0 w g { s with q := q' } ∧ Hist s.q q' ∧ w = w' := by
  obtain ⟨h1, h2, _, h⟩ := h
  exact (is_mark (h.i (by decide))).mono fun e w' ⟨q', x, he, hM, hS, hh, hw⟩ => ⟨q', x, he, hM, ⟨h1, h2, _, h.bel, fun _ => hS, h.c, h.d, h.mr, h.sv, h.bx⟩, hh, hw⟩
theorem x_back (h : QX w0 w g s) (hk : s.k ≤ 1000000000) {x : Int} {m' : IM} (hx : IMark g.b s.k s.q m' x) (hg : IGood g.b.abs m') : Calls Tryd.prog 17 #[.pointer (some ⟨g.b.T, 0, none⟩), .int .i64 x] w fun e w' => e = .returned (.int .i64 0) ∧ QX w0 w' g { s with m := m' } := by
  obtain ⟨h1, h2, _, h⟩ := h
  exact (is_back (h.i (by decide)) hk hx).mono fun e w' ⟨he, hN⟩ => ⟨he, h.onI h2 hN hg⟩
/-! The document's. -/
theorem PX.onD {m' : IM} (h : PX 0 w0 w col g s) (hi : IGood g.b.abs s.m) (hA : Arr w' g.D 33 (docM g.u m')) (hm : Moved w w' (fun k => k = g.D)) (hg : IGood g.b.abs m') : QX w0 w' g { s with md := m' } := by
  have hd := h.d (by decide)
  have k := h.moved (a := 3) hm (fun k hk _ => by rw [hk]; exact hd.2) (by decide) (fun k hk => by rw [hk]; exact hd.1.2)
  exact ⟨hi, hg, _, k.bel, fun _ => k.i (by decide), k.c, fun _ => ⟨⟨hA, hd.1.2⟩, (recol_lt hd.1.1.lt).trans hd.2⟩, fun _ => k.mr (by decide), fun _ => k.sv (by decide), fun _ => k.bx (by decide)⟩
theorem d_put (h : QX w0 w g s) (z cd : Int) : Calls Tryd.prog 19 #[.pointer (some ⟨g.D, 0, none⟩), .int .i64 z, .int .i64 cd] w fun e w' => e = .returned (.tuple #[]) ∧ QX w0 w' g { s with md := putI g.b.abs z cd s.md } := by
  have hD := h.doc
  obtain ⟨h1, h2, _, h⟩ := h
  obtain ⟨e1, e2⟩ := put_doc h2 z cd
  exact (rput_any hD z cd).mono fun e w' ⟨he, hN⟩ => ⟨he, h.onD h1 (by unfold docM; rw [e1, e2]; exact hN.1.2) hN.2 (good_put h2 z cd)⟩
theorem d_take (h : QX w0 w g s) (z : Int) : Calls Tryd.prog 12 #[.pointer (some ⟨g.D, 0, none⟩), .int .i64 z] w fun e w' => e = .returned (.tuple #[]) ∧ QX w0 w' g { s with md := takeI g.b.abs z s.md } := by
  have hD := h.doc
  obtain ⟨h1, h2, _, h⟩ := h
  obtain ⟨e1, e2⟩ := take_doc h2 z
  exact (rtake_any hD (h2.wf 0 (by omega)) z).mono fun e w' ⟨he, hN⟩ => ⟨he, h.onD h1 (by unfold docM; rw [e1, e2]; exact hN.1.2) hN.2 (good_take h2 z)⟩
theorem d_touch (h : QX w0 w g s) (z : Int) : Calls Tryd.prog 14 #[.pointer (some ⟨g.D, 0, none⟩), .int .i64 z, .bool true] w fun e w' => e = .returned (.tuple #[]) ∧ QX w0 w' g { s with md := touchI z s.md } := by
  have hD := h.doc
  obtain ⟨h1, h2, _, h⟩ := h
  obtain ⟨e1, e2⟩ := touch_doc s.md z
  exact (rtouch_any hD (h2.wf 0 (by omega)) z true).mono fun e w' ⟨he, hN⟩ => ⟨he, h.onD h1 (by unfold docM; rw [e1, e2]; exact hN.1.2) hN.2 (good_touch h2 z)⟩
theorem d_clear (h : QX w0 w g s) (z : Int) : Calls Tryd.prog 14 #[.pointer (some ⟨g.D, 0, none⟩), .int .i64 z, .bool false] w fun e w' => e = .returned (.tuple #[]) ∧ QX w0 w' g { s with md := clearI z s.md } := by
  have hD := h.doc
  obtain ⟨h1, h2, _, h⟩ := h
  obtain ⟨e1, e2⟩ := clear_doc s.md z
  exact (rtouch_any hD (h2.wf 0 (by omega)) z false).mono fun e w' ⟨he, hN⟩ => ⟨he, h.onD h1 (by unfold docM; rw [e1, e2]; exact hN.1.2) hN.2 (good_clear h2 z)⟩
theorem d_card (h : QX w0 w g s) (z : Int) : Calls Tryd.prog 21 #[.pointer (some ⟨g.D, 0, none⟩), .int .i64 z] w fun e w' => e = .returned (.int .i64 (cardI z s.md)) ∧ w = w' := rcard_any h.doc h.2.1.rng z
theorem d_all (h : QX w0 w g s) : Calls Tryd.prog 25 #[.pointer (some ⟨g.D, 0, none⟩)] w fun e w' => ∃ v, e = .returned v ∧ Ints w' w'.heap.size v (zl (lst (s.md.Z 0))) ∧ Below w.heap.size w w' :=
  (rall_any h.doc).mono fun _ _ ⟨v, he, h1, h2⟩ => ⟨v, he, h1.ints (Nat.le_refl _), h2⟩
theorem d_having (h : QX w0 w g s) (kd e : Int) : Calls Tryd.prog 27 #[.pointer (some ⟨g.D, 0, none⟩), .int .i64 kd, .int .i64 e] w fun e' w' => ∃ v, e' = .returned v ∧ Ints w' w'.heap.size v (zl (lst (havingI kd e s.md))) ∧ Below w.heap.size w w' := by
  have hD := h.doc
  obtain ⟨h1, h2, _, h⟩ := h
  rw [having_same h2]
  exact (rhaving_any hD h2.rng h.c.1 (fun k hk => (h.c.2 k hk).1) (h.i (by decide)).sm.each kd e).mono fun e' w' ⟨v, he, h3, h4⟩ => ⟨v, he, h3.ints (Nat.le_refl _), h4⟩
/-! The rows. -/
theorem QX.app5 {v : Value} {x : Int} (h : QX w0 w g s) (hw : IRow w' w0.heap.size v (s.ks ++ [x])) (hg : w.grownBy w' s.kv.ownBlock) (hf : ∀ k, v.ownBlock = some k → s.kv.ownBlock = some k ∨ w.heap.size ≤ k) : QX w0 w' g { s with kv := v, ks := s.ks ++ [x] } := by
  obtain ⟨h1, h2, _, h⟩ := h
  have hm := h.mr (by decide)
  have k := h.moved (a := 5) (mv_grown hg) (fun k hk _ => hm.2 k hk) (by decide) (own_bs hm.1)
  exact ⟨h1, h2, _, k.bel, fun _ => k.i (by decide), k.c, fun _ => k.d (by decide), fun _ => hm.grew hw hf, fun _ => k.sv (by decide), fun _ => k.bx (by decide)⟩
theorem QX.app6 {v : Value} {M : IM} (h : QX w0 w g s) (hw : w'.ownsRow w0.heap.size 33 513 v (s.ss.length + 1) (s.ss.flatMap (docM g.u) ++ docM g.u M)) (hg : w.grownBy w' s.sv.ownBlock) (hf : ∀ k, v.ownBlock = some k → s.sv.ownBlock = some k ∨ w.heap.size ≤ k) : QX w0 w' g { s with sv := v, ss := s.ss ++ [M] } := by
  obtain ⟨h1, h2, _, h⟩ := h
  have hm := h.sv (by decide)
  have k := h.moved (a := 6) (mv_grown hg) (fun k hk _ => hm.2 k hk) (by decide) (own_bs hm.1)
  refine ⟨h1, h2, _, k.bel, fun _ => k.i (by decide), k.c, fun _ => k.d (by decide), fun _ => k.mr (by decide), fun _ => ?_, fun _ => k.bx (by decide)⟩
  show RwC _ _ 6 _ _ 513 v (s.ss ++ [M]).length ((s.ss ++ [M]).flatMap (docM g.u))
  rw [List.length_append, List.flatMap_append, show List.flatMap (docM g.u) [M] = docM g.u M by simp]
  exact hm.grew hw hf
theorem rwTake {w : World} {base size : Nat} {e : TypeId} {B n m cap : Nat} {xs : List Value} (h : w.ownsRow base e size (.slice (some ⟨B, 0, none⟩) n cap) n xs) (hm : m ≤ n) : w.ownsRow base e size (.slice (some ⟨B, 0, none⟩) m cap) m (xs.take (m * size)) := by
  have hl := h.1
  rcases h.2 with ⟨hv, _⟩ | ⟨g, c, cur, hv, hb, hg, hn, hmx, hs, ht⟩
  · cases hv
  · injection hv with e1 _ e3
    injection e1 with e1
    injection e1 with e1
    subst e1 e3
    have hms : m * size ≤ n * size := Nat.mul_le_mul_right _ hm
    refine ⟨by rw [List.length_take]; omega, .inr ⟨B, cap, cur, rfl, hb, hg, by omega, hmx, hs, ?_⟩⟩
    rw [← ht, List.take_take]
    congr 1; omega
theorem QX.cut5 {B m cap : Nat} (h : QX w0 w g s) (hks : s.ks.length = m + 1) (hv : s.kv = .slice (some ⟨B, 0, none⟩) (m + 1) cap) : QX w0 w g { s with kv := .slice (some ⟨B, 0, none⟩) m cap, ks := s.ks.take m } := by
  obtain ⟨h1, h2, _, h⟩ := h
  refine ⟨h1, h2, _, h.bel, h.i, h.c, h.d, fun _ => ?_, h.sv, h.bx⟩
  have hm := h.mr (by decide)
  rw [hks, hv] at hm
  show RwC _ _ 5 _ _ 1 _ (s.ks.take m).length _
  rw [List.length_take, show min m s.ks.length = m by omega, List.map_take]
  have := rwTake hm.1 (m := m) (by omega)
  rw [Nat.mul_one] at this
  exact ⟨this, fun k hk => hm.2 k hk⟩
theorem doc_flat {u : Value} {abs : List (List (Int × Int))} : ∀ (l : List IM) (m : Nat), (∀ M ∈ l, IGood abs M) → (l.flatMap (docM u)).take (m * 513) = (l.take m).flatMap (docM u)
  | [], m, _ => by simp
  | M :: l, 0, _ => by simp
  | M :: l, m + 1, h => by
    have hl := docM_len (u := u) (h M (by simp))
    rw [List.flatMap_cons, List.take_succ_cons, List.flatMap_cons, List.take_append, List.take_of_length_le (by rw [hl, Nat.succ_mul]; omega), hl, show (m + 1) * 513 - 513 = m * 513 by rw [Nat.succ_mul]; omega, doc_flat l m (fun M hM => h M (by simp [hM]))]
theorem QX.cut6 {B m cap : Nat} (h : QX w0 w g s) (hgd : ∀ M ∈ s.ss, IGood g.b.abs M) (hps : s.ss.length = m + 1) (hv : s.sv = .slice (some ⟨B, 0, none⟩) (m + 1) cap) : QX w0 w g { s with sv := .slice (some ⟨B, 0, none⟩) m cap, ss := s.ss.take m } := by
  obtain ⟨h1, h2, _, h⟩ := h
  refine ⟨h1, h2, _, h.bel, h.i, h.c, h.d, h.mr, fun _ => ?_, h.bx⟩
  have hm := h.sv (by decide)
  rw [hps, hv] at hm
  show RwC _ _ 6 _ _ 513 _ (s.ss.take m).length ((s.ss.take m).flatMap (docM g.u))
  rw [List.length_take, show min m s.ss.length = m by omega, ← doc_flat s.ss m hgd]
  exact ⟨rwTake hm.1 (by omega), fun k hk => hm.2 k hk⟩
/-- A record that was kept, cell by cell. -/
theorem QX.kept {B n cap m : Nat} (h : QX w0 w g s) (hgd : ∀ M ∈ s.ss, IGood g.b.abs M) (hm : m < s.ss.length) (hv : s.sv = .slice (some ⟨B, 0, none⟩) n cap) : ∀ j v, (docM g.u (s.ss.getD m s.md))[j]? = some v → w.cell? ((⟨B, m * 513, none⟩ : Addr).add j) = some v := by
  have h6 := h.saved
  intro j v hj
  have hmem : s.ss.getD m s.md ∈ s.ss := by rw [List.getD_eq_getElem?_getD, List.getElem?_eq_getElem hm]; exact List.getElem_mem _
  have hl := docM_len (u := g.u) (hgd _ hmem)
  have hj5 : j < 513 := by
    have := (List.getElem?_eq_some_iff.1 hj).1
    rw [hl] at this; exact this
  have hlt : m * 513 + j < s.ss.length * 513 := by
    have : (m + 1) * 513 ≤ s.ss.length * 513 := Nat.mul_le_mul_right _ hm
    rw [Nat.succ_mul] at this; omega
  obtain ⟨G, gc, e1, _, e2⟩ := own_cell h6 hlt
  rw [hv] at e1
  injection e1 with e1
  injection e1 with e1
  injection e1 with e1
  subst e1
  rw [show (⟨B, m * 513, none⟩ : Addr).add j = ⟨B, m * 513 + j, none⟩ by unfold Addr.add; split <;> simp_all, e2, ← hj]
  have key : ∀ (l : List IM) (m : Nat), (∀ M ∈ l, IGood g.b.abs M) → m < l.length → (l.flatMap (docM g.u))[m * 513 + j]? = (docM g.u (l.getD m s.md))[j]? := by
    intro l
    induction l with
    | nil => intro m _ h; cases h
    | cons M l ih =>
      intro m hG hm
      have hM := docM_len (u := g.u) (hG M (by simp))
      cases m with
      | zero => rw [Nat.zero_mul, Nat.zero_add, List.flatMap_cons, List.getElem?_append_left (by rw [hM]; exact hj5)]; rfl
      | succ m =>
        rw [List.flatMap_cons, List.getElem?_append_right (by rw [hM, Nat.succ_mul]; omega), hM, show (m + 1) * 513 + j - 513 = m * 513 + j by rw [Nat.succ_mul]; omega, ih m (fun M hM => hG M (by simp [hM])) (by simpa using hm)]
        rfl
  exact key s.ss m hgd hm
/-- The record is set to one that was kept. -/
theorem QX.again {M : IM} (h : QX w0 w g s) (hg : IGood g.b.abs M) : QX w0 (w.setRow g.D (docM g.u M).toArray) g { s with md := M } := by
  obtain ⟨h1, h2, _, h⟩ := h
  obtain ⟨h3, h4⟩ := setRow_moved (h.d (by decide)).1.1 (docM g.u M)
  exact h.onD h1 h3 h4 hg
/-- Between two acts. -/
def RX (w0 w : World) (g : PG) (s : PZ) : Prop := IGood g.b.abs s.m ∧ IGood g.b.abs s.md ∧ ∃ col, PX 7 w0 w col g s
theorem QX.rest (h : QX w0 w g s) : RX w0 w g s := by
  obtain ⟨h1, h2, _, h⟩ := h
  exact ⟨h1, h2, _, h.bel, fun _ => h.i (by decide), h.c, fun _ => h.d (by decide), fun _ => h.mr (by decide), fun _ => h.sv (by decide), fun hn => absurd rfl hn⟩
theorem RX.bel (h : RX w0 w g s) : Below w0.heap.size w0 w := by obtain ⟨_, _, _, h⟩ := h; exact h.bel
theorem RX.act {X' : Nat} {xs' : List Value} (h : RX w0 w g s) (hb : Below w.heap.size w w') (ha : Arr w' X' 37 xs') (hX : w.heap.size ≤ X') : QX w0 w' g { s with X := X', xs := xs' } := by
  obtain ⟨h1, h2, col, h⟩ := h
  have hd := h.d (by decide)
  exact ⟨h1, h2, recol w.heap.size col 7, fb_call h.bel hb, fun _ => (h.i (by decide)).below hb 7, ⟨h.c.1.block fun k hk => hb.block k (h.c.2 k hk).1, fun j hj => ⟨Nat.lt_of_lt_of_le (h.c.2 j hj).1 hb.size, (recol_lt (h.c.2 j hj).1).trans (h.c.2 j hj).2⟩⟩,
    fun _ => ⟨⟨(hb.block _ hd.1.1.lt).trans hd.1.1, hd.1.2⟩, (recol_lt hd.1.1.lt).trans hd.2⟩, fun _ => (h.mr (by decide)).made 7 hb, fun _ => (h.sv (by decide)).made 7 hb, fun _ => ⟨ha, recol_ge hX⟩⟩
theorem RX.below (h : RX w0 w g s) (hb : Below w.heap.size w w') : RX w0 w' g s := by
  obtain ⟨h1, h2, col, h⟩ := h
  have hd := h.d (by decide)
  exact ⟨h1, h2, recol w.heap.size col 0, fb_call h.bel hb, fun _ => (h.i (by decide)).below hb 0, ⟨h.c.1.block fun k hk => hb.block k (h.c.2 k hk).1, fun j hj => ⟨Nat.lt_of_lt_of_le (h.c.2 j hj).1 hb.size, (recol_lt (h.c.2 j hj).1).trans (h.c.2 j hj).2⟩⟩,
    fun _ => ⟨⟨(hb.block _ hd.1.1.lt).trans hd.1.1, hd.1.2⟩, (recol_lt hd.1.1.lt).trans hd.2⟩, fun _ => (h.mr (by decide)).made 0 hb, fun _ => (h.sv (by decide)).made 0 hb, fun hn => absurd rfl hn⟩
theorem rx_having (h : RX w0 w g s) (kd e : Int) (hw : wf2 kd e) : Calls Tryd.prog 26 #[.pointer (some ⟨g.b.X, 0, none⟩), .int .i64 kd, .int .i64 e] w fun e' w' => e' = .returned (svL (havingI kd e s.m)) ∧ Below w.heap.size w w' := by
  obtain ⟨h1, h2, _, h⟩ := h
  exact having_any (h.i (by decide)) kd e hw
theorem rd_having (h : RX w0 w g s) (kd e : Int) : Calls Tryd.prog 27 #[.pointer (some ⟨g.D, 0, none⟩), .int .i64 kd, .int .i64 e] w fun e' w' => ∃ v, e' = .returned v ∧ Ints w' w'.heap.size v (zl (lst (havingI kd e s.md))) ∧ Below w.heap.size w w' := by
  obtain ⟨h1, h2, _, h⟩ := h
  have hD : DocAt w g.D g.u s.md.H (s.md.Z 0) := ⟨h2.len, (h.d (by decide)).1.1⟩
  rw [having_same h2]
  exact (rhaving_any hD h2.rng h.c.1 (fun k hk => (h.c.2 k hk).1) (h.i (by decide)).sm.each kd e).mono fun _ _ ⟨v, he, h3, h4⟩ => ⟨v, he, h3.ints (Nat.le_refl _), h4⟩
theorem RX.good (h : RX w0 w g s) : IGood g.b.abs s.m := h.1
theorem x_start (w : World) {w1 w2 w3 : World} {b : IB} {q : List Int × List (Int × Int)} {u : Value} {vs : List Value} {abs : List (List (Int × Int))} (hp : POut w1 w2 u vs abs) (hN : ISN w w2 w3 (fun j => if j < w1.heap.size then 1 else 2) 1 b 40 q M0) (habs : b.abs = abs) :
    RX w (w3.alloc (.cells (docZ u).toArray 33)) ⟨b, w3.heap.size, u, vs, rowsOf u vs⟩ ⟨40, q, M0, M0, .slice none 0 0, [], .slice none 0 0, [], 0, []⟩ := by
  subst habs
  have hc := hp.cards
  have lt : ∀ k, rowsOf u vs k → w1.heap.size ≤ k ∧ k < w2.heap.size := fun k hk => by
    rcases hk with hk | ⟨i, hi, hk⟩
    · exact World.ownsRow.lt hp.row k hk
    · exact World.ownsRow.lt (hp.each i (by rw [← hp.len]; exact hi)) k hk
  have hb4 := fb_alloc (Below.refl _ w3) (.cells (docZ u).toArray 33)
  have hcl : ∀ k, rowsOf u vs k → k < w3.heap.size ∧ recol w2.heap.size (fun j => if j < w1.heap.size then 1 else 2) 1 k = 2 := fun k hk => by
    obtain ⟨h1, h2⟩ := lt k hk
    exact ⟨Nat.lt_of_lt_of_le h2 hN.2.size, by rw [recol_lt h2]; exact if_neg (by omega)⟩
  have hc3 : CardsAt w3 (rowsOf u vs) u vs b.abs := hc.block fun k hk => by
    obtain ⟨h1, h2⟩ := lt k hk
    exact hN.2.block k h2 (fun e => by dsimp only at e; rw [if_neg (by omega)] at e; cases e)
  refine ⟨good_zero _, good_zero _, recol w3.heap.size _ 3, fb_call hN.1.bel hb4, fun _ => hN.1.below hb4 3, ⟨hc3.block fun k hk => hb4.block k (hcl k hk).1, fun j hj => ⟨Nat.lt_of_lt_of_le (hcl j hj).1 hb4.size, (recol_lt (hcl j hj).1).trans (hcl j hj).2⟩⟩,
    fun _ => ⟨⟨?_, hN.1.bel.size⟩, recol_ge (Nat.le_refl _)⟩, fun _ => RwC.nil _ _ _ _ _ _, fun _ => RwC.nil _ _ _ _ _ _, fun hn => absurd rfl hn⟩
  exact Arr.new w3 _ (docZ u)
end
/-- The marks kept, the last one first. -/
structure XE where
  q : List Int × List (Int × Int)
  m : IM
  x : Int
def XChn (b : IB) (k : Nat) : List Int × List (Int × Int) → List XE → Prop
  | _, [] => True
  | q, e :: r => Hist e.q q ∧ IMark b k e.q e.m e.x ∧ IGood b.abs e.m ∧ XChn b k e.q r
theorem XChn.mono {b : IB} {k n : Nat} (hn : k ≤ n) : ∀ {q : List Int × List (Int × Int)} {S : List XE}, XChn b k q S → XChn b n q S
  | _, [], _ => trivial
  | _, _ :: _, h => ⟨h.1, h.2.1.mono hn, h.2.2.1, XChn.mono hn h.2.2.2⟩
theorem XChn.hist {b : IB} {k : Nat} {q q' : List Int × List (Int × Int)} {S : List XE} (h : XChn b k q S) (hh : Hist q q') : XChn b k q' S := by
  cases S with
  | nil => trivial
  | cons e r => exact ⟨h.1.trans hh, h.2⟩
theorem XChn.good {b : IB} {k : Nat} : ∀ {q : List Int × List (Int × Int)} {S : List XE}, XChn b k q S → ∀ e ∈ S, IGood b.abs e.m
  | _, [], _ => fun e he => by cases he
  | _, _ :: _, h => fun e he => by
    rcases List.mem_cons.1 he with rfl | he
    · exact h.2.2.1
    · exact XChn.good h.2.2.2 e he
def xks (S : List XE) : List Int := (S.map (·.x)).reverse
def xss (S : List XE) : List IM := (S.map (·.m)).reverse
theorem xks_push (S : List XE) (e : XE) : xks (e :: S) = xks S ++ [e.x] := by simp [xks]
theorem xss_push (S : List XE) (e : XE) : xss (e :: S) = xss S ++ [e.m] := by simp [xss]
theorem xks_len (S : List XE) : (xks S).length = S.length := by simp [xks]
theorem xss_len (S : List XE) : (xss S).length = S.length := by simp [xss]
theorem xss_good {b : IB} {k : Nat} {q : List Int × List (Int × Int)} {S : List XE} (h : XChn b k q S) : ∀ M ∈ xss S, IGood b.abs M := fun M hM => by
  obtain ⟨e, he, rfl⟩ := List.mem_map.1 (List.mem_reverse.1 hM)
  exact h.good e he
theorem Hss.below {w w' : World} {v : Value} {L : List (List (Int × Int))} (h : Hss w w.heap.size v L) (hb : Below w.heap.size w w') : Hss w' w'.heap.size v L := by
  obtain ⟨a, cap, e, h⟩ := h
  refine ⟨a, cap, e, h.imp_right ?_⟩
  rintro ⟨B, o, ha, hB, hc⟩
  refine ⟨B, o, ha, Nat.lt_of_lt_of_le hB hb.size, fun i hi => ?_⟩
  obtain ⟨ai, ci, h1, h2⟩ := hc i hi
  refine ⟨ai, ci, (hb.cell (p := ⟨B, o + i, none⟩) hB).trans h1, h2.imp_right ?_⟩
  rintro ⟨b', o', e', hb', h3⟩
  exact ⟨b', o', e', Nat.lt_of_lt_of_le hb' hb.size, fun j hj => ⟨(hb.cell (p := ⟨b', o' + j * 2, none⟩) hb').trans (h3 j hj).1, (hb.cell (p := ⟨b', o' + j * 2 + 1, none⟩) hb').trans (h3 j hj).2⟩⟩
end
section
open Go.RowKit

inductive TyX
  | is (v : Value)
  | ints (L : List Nat)
  | any
def TyX.ok : TyX → Value → World → Prop
  | .is x, v, _ => v = x
  | .ints L, v, w => Ints w w.heap.size v (zl L)
  | .any, _, _ => True
theorem ints_on {w w' : World} {v : Value} {l : List Int} (h : Ints w w.heap.size v l) (hb : Below w.heap.size w w') : Ints w' w'.heap.size v l := (h.below hb (Nat.le_refl _)).mono hb.size
theorem TyX.mono (t : TyX) (v : Value) (w w' : World) (h : t.ok v w) (hb : Below w.heap.size w w') : t.ok v w' := by
  cases t with
  | is x => exact h
  | ints L => exact ints_on h hb
  | any => trivial
theorem QX.first {w0 w1 w : World} {g : PG} {s : PZ} (h : QX w0 w1 g s) (e : w = w1 ∨ w = { w1 with drawn := w1.drawn + 1 }) : QX w0 w g s := by
  rcases e with rfl | rfl
  · exact h
  · exact h.below (bel_drew (Below.refl _ w1))
theorem lst_short (S : List Nat) : (zl (lst S)).length ≤ 1000000 := by rw [zl_len]; have := lst_len S 256; show (lstTo S 256).length ≤ _; omega
theorem wf_small {k e : Int} (h1 : -1000 ≤ k) (h2 : k ≤ 1000) (h3 : -1000 ≤ e) (h4 : e ≤ 1000) : wf2 k e := by
  constructor <;> (simp [Lit.wf, IntKind.min, IntKind.max, IntKind.signed, IntKind.bits]; omega)
theorem wf_rem {k x : Int} (h : (Lit.int .i64 k).wf = true) : wf2 k (x.tmod 8) := by
  refine ⟨h, ?_⟩
  have h1 := Int.tmod_lt_of_pos x (show (0 : Int) < 8 by omega)
  have h2 : -8 < x.tmod 8 := by
    have := Int.neg_tmod x 8
    have h3 := Int.tmod_lt_of_pos (-x) (show (0 : Int) < 8 by omega)
    omega
  simp [Lit.wf, IntKind.min, IntKind.max, IntKind.signed, IntKind.bits]; omega
end
end Go.Proofs.YtcgadmeagbcbnaaDoor
