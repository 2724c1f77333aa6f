/- The walk of deal.Turned. No condition. -/
import Derived.Test.YtcehclagipdleaaDealE
import Derived.Maps.OwnOps
import Derived.Maps.OwnSet
import Derived.Maps.Views
namespace Go.Proofs.Ytcehclagipdleaa
open Go.RowKit Go.Maps

theorem wf_i64 {x : Int} (h0 : 0 ≤ x) (h1 : x ≤ 1000000) : (Lit.int .i64 x).wf = true := by
  simp [Lit.wf, IntKind.min, IntKind.max, IntKind.signed, IntKind.bits]; omega
theorem zeroI (w : World) : (zeroValue 3).run Try.prog w = .ok (.int .i64 0) w := by kernel_rfl
theorem keyI : Keyed Try.prog 3 := int_keyed Try.underlying3

/-- The map of those that were seen. -/
def seenD (l : List Int) : DataW Unit := l.foldl (fun m x => m.put (.int .i64 x) (.lit (.int .i64 1))) (.map [])
theorem seenD_snoc (l : List Int) (x : Int) : seenD (l ++ [x]) = (seenD l).put (.int .i64 x) (.lit (.int .i64 1)) := by simp [seenD]
theorem seenD_isMap (l : List Int) : IsMap (seenD l) := by
  suffices h : ∀ (l : List Int) (D : DataW Unit), IsMap D → IsMap (l.foldl (fun m x => m.put (.int .i64 x) (.lit (.int .i64 1))) D) from h l _ isMap_empty
  intro l
  induction l with
  | nil => intro D h; exact h
  | cons x r ih => intro D h; exact ih _ (h.put _ _)
theorem seenD_snocs (l : List Int) (P : List Int → Prop) (h0 : P []) (h : ∀ l x, P l → P (l ++ [x])) : P l := by
  suffices hh : ∀ n (l : List Int), l.length = n → P l from hh _ l rfl
  intro n
  induction n with
  | zero => intro l hl; rw [List.eq_nil_of_length_eq_zero hl]; exact h0
  | succ n ih =>
    intro l hl
    rw [← List.dropLast_concat_getLast (show l ≠ [] from fun e => by rw [e] at hl; simp at hl)]
    exact h _ _ (ih _ (by simp [hl]))
theorem seenD_at (l : List Int) (x : Int) : (seenD l).atKey (.int .i64 x) (.lit (.int .i64 0)) = .lit (.int .i64 (if x ∈ l then 1 else 0)) := by
  induction l using seenD_snocs with
  | h0 => simp [seenD, DataW.atKey]
  | h l y ih =>
    rw [seenD_snoc]
    by_cases e : x = y
    · subst e
      rw [atKey_put_same (seenD_isMap l) (by trivial)]
      simp
    · rw [atKey_put_other (by simp [e]), ih]
      simp [e]

/-- What has been turned. -/
def pick (l : List Int) (perm : List Int) : List Int := perm.map (fun k => l.getD k.toNat 0)

theorem irow_ne {w : World} {b : Nat} {v : Value} {l : List Int} (h : IRow w (b + 1) v l) : v.ownBlock = none ∨ v.ownBlock ≠ some b := by
  cases hv : v.ownBlock with
  | none => exact .inl rfl
  | some g =>
    refine .inr (fun e => ?_)
    have := World.ownsRow.lt h g hv
    injection e with e
    omega
set_option maxRecDepth 100000 in
set_option maxHeartbeats 2000000 in
theorem turned_len (x y : Option Addr) (n m c d : Nat) (h : n ≠ m) (w : World) : Calls Try.prog 12 #[.slice x n c, .slice y m d] w fun e w' => e = .returned (.slice none 0 0) ∧ Below w.heap.size w w' := by
  have hB : ((n : Int) != (m : Int)) = true := by simp; omega
  clear h
  go_enter Try.func12, Try.ntmps12
  go_wp2
  go_ret
  exact ⟨rfl, Below.refl _ _⟩
set_option maxRecDepth 100000 in
set_option maxHeartbeats 2000000 in
theorem turned_nil (x y : Option Addr) (c d : Nat) (w : World) : Calls Try.prog 12 #[.slice x 0 c, .slice y 0 d] w fun e w' => e = .returned (.slice none 0 0) ∧ Below w.heap.size w w' := by
  have hmm := @run_makeMap Try.prog
  go_enter Try.func12, Try.ntmps12
  go_wp2
  refine wp_loop_rounds 1 ?_
  rw [rounds_succ]
  go_wp2
  go_ret
  exact ⟨rfl, (Below.refl _ _).alloc (Nat.le_refl _) _⟩
set_option maxRecDepth 100000 in
set_option maxHeartbeats 2000000 in
theorem turned_cells (b o b' o' n c d : Nat) (l perm : List Int) (w : World) (hl : l.length = n) (hm : perm.length = n) (hn : n ≤ 1000000) (hb : b < w.heap.size) (hb' : b' < w.heap.size)
    (h1 : ∀ j, j < n → w.cell? ⟨b, o + j, none⟩ = some (.int .i64 (l.getD j 0))) (h2 : ∀ j, j < n → w.cell? ⟨b', o' + j, none⟩ = some (.int .i64 (perm.getD j 0))) :
    Calls Try.prog 12 #[.slice (some ⟨b, o, none⟩) n c, .slice (some ⟨b', o', none⟩) n d] w fun e w' => ∃ v, e = .returned v ∧ Ints w' w'.heap.size v (turnOf l perm) ∧ Below w.heap.size w w' := by
  obtain ⟨i0, hi, hz0, hz1, hz2⟩ := info_parts infoI
  have hmm := @run_makeMap Try.prog
  have H1 := Lib.hid h1
  have H2 := Lib.hid h2
  have HL := Lib.hid (And.intro hl hm)
  clear h1 h2 hl hm
  go_enter Try.func12, Try.ntmps12
  go_wp2
  clear hmm
  go_loopw [6, 17] (fun v i wr => ∃ k : Nat, k ≤ n ∧ i = .int .i64 k ∧ IRow wr (w.heap.size + 1) v (pick l (perm.take k)) ∧ wr.ownsMap Try.prog 3 (plainElem (H := Unit) Try.prog 3) w.heap.size k (seenD (perm.take k)) ∧ Hid (okT n (perm.take k) (perm.drop k) = okT n [] perm) ∧ Below w.heap.size w wr) (fun _ i _ => n - (intOf i).toNat)
  case atStart => exact ⟨0, Nat.zero_le _, rfl, IRow.nil _ _, World.ownsMap_made _ _ _ _, by simp [Hid], (Below.refl _ _).alloc (Nat.le_refl _) _⟩
  case round =>
    obtain ⟨k, hk, rfl, hown, hmap, hok, hbel⟩ := hrel
    by_cases hlt : k < n
    · have hpl : perm.length = n := HL.out.2
      have hdr : perm.drop k = perm.getD k 0 :: perm.drop (k + 1) := by
        rw [List.drop_eq_getElem_cons (by omega)]; simp [List.getD_eq_getElem?_getD, hpl, hlt]
      have htk : perm.take (k + 1) = perm.take k ++ [perm.getD k 0] := by
        rw [List.take_succ_eq_append_getElem (by omega)]; simp [List.getD_eq_getElem?_getD, hpl, hlt]
      have hc1 : wr.cell? ⟨b', o' + k, none⟩ = some (.int .i64 (perm.getD k 0)) := (hbel.cell (p := ⟨b', o' + k, none⟩) hb').trans (H2.out k hlt)
      obtain ⟨x, hx⟩ : ∃ x, perm.getD k 0 = x := ⟨_, rfl⟩
      rw [hx] at hc1 hdr htk
      have hok2 : (decide (0 ≤ x ∧ x < (n : Int) ∧ x ∉ perm.take k) && okT n (perm.take (k + 1)) (perm.drop (k + 1))) = okT n [] perm := by
        rw [← hok.out, hdr, htk]; rfl
      clear hx hdr hok hpl
      have hfail : ¬ (0 ≤ x ∧ x < (n : Int) ∧ x ∉ perm.take k) → turnOf l perm = [] := by
        intro h
        have e : okT n [] perm = false := by rw [← hok2, decide_eq_false h]; rfl
        unfold turnOf
        rw [if_neg (by rintro ⟨_, h2⟩; rw [HL.out.1, e] at h2; cases h2)]
      by_cases x0 : x < 0
      · have HF := Lib.hid (hfail (by omega))
        clear hfail hok2 htk
        go_wp2
        go_ret
        exact ⟨_, rfl, by rw [HF.out]; exact Ints.nil _ _, hbel⟩
      · by_cases x1 : (n : Int) ≤ x
        · have HF := Lib.hid (hfail (by omega))
          clear hfail hok2 htk
          go_wp2
          go_ret
          exact ⟨_, rfl, by rw [HF.out]; exact Ints.nil _ _, hbel⟩
        · obtain ⟨z, rfl⟩ := Int.eq_ofNat_of_zero_le (show 0 ≤ x by omega)
          have hzn : z < n := by omega
          have hkey : keyOf Try.prog 3 (.int .i64 (z : Int)) = some (.int .i64 (z : Int)) := keyOf_int_mk Try.underlying3 (wf_i64 (by omega) (by omega))
          have hc2 : wr.cell? ⟨b, o + z, none⟩ = some (.int .i64 (l.getD z 0)) := (hbel.cell (p := ⟨b, o + z, none⟩) hb).trans (H1.out z hzn)
          have hat0 := seenD_at (perm.take k) (z : Int)
          have hpk : (pick l (perm.take k)).length ≤ 1000000 := by simp [pick]; omega
          have hwsz := hbel.size
          by_cases hm : (z : Int) ∈ perm.take k
          · have HF := Lib.hid (hfail (by intro h; exact h.2.2 hm))
            rw [if_pos hm] at hat0
            have HA := Lib.hid hat0
            obtain ⟨cc, hlk, hat, _⟩ := hmap.lookup_int keyI Try.underlying38 Try.underlying3 (zeroI _) hkey
            obtain rfl : cc = 1 := by have := hat.symm.trans HA.out; simpa using this
            clear hfail hok2 htk hat0 hm hat
            go_wp2
            go_ret
            exact ⟨_, rfl, by rw [HF.out]; exact Ints.nil _ _, hbel⟩
          · rw [if_neg hm] at hat0
            have HA := Lib.hid hat0
            have hok3 : okT n (perm.take (k + 1)) (perm.drop (k + 1)) = okT n [] perm := by
              rw [← hok2, decide_eq_true (by exact ⟨by omega, by omega, hm⟩)]; rfl
            have HO := Lib.hid hok3
            have HT := Lib.hid htk
            obtain ⟨cc, hlk, hat, _⟩ := hmap.lookup_int keyI Try.underlying38 Try.underlying3 (zeroI _) hkey
            obtain rfl : cc = 0 := by have := hat.symm.trans HA.out; simpa using this
            clear hfail hok2 htk hat0 hm hok3 hat
            obtain ⟨y, hy⟩ : ∃ y, l.getD z 0 = y := ⟨_, rfl⟩
            rw [hy] at hc2
            have HY := Lib.hid hy
            clear hy x0 x1
            go_wp2_with (first
              | (at_mapUpdate; refine wpList_mapUpdate_own _ rfl _ _ _ 38 rfl 3 3 keyI Try.underlying38 _ w.heap.size k _ rfl hmap (by unfold maxLen; omega) _ _ _ rfl rfl hkey _ [] (plainElem_int Try.underlying3 (by decide)) ?_; intro w1 hmap1 hgrow1; have hown1 := hown.kept hgrow1 (irow_ne hown); have hbel1 := hbel.grown hgrow1 hbel.size (fun j hj => by cases hj; exact Nat.le_refl _); have hc3 : w1.cell? ⟨b, o + z, none⟩ = some (.int .i64 y) := (World.cell?_of_block (a := ⟨b, o + z, none⟩) (hgrow1.block b (Nat.lt_of_lt_of_le hb hbel.size) (by simp; omega))).trans hc2)
              | (at_builtin; refine wpList_append_own _ rfl _ _ 22 rfl (w.heap.size + 1) 3 i0 (.int .i64 0) 1 8 Try.underlying22 hi hz0 hz1 hz2 rfl (by decide) _ _ _ rfl (hown1.alloc _) ⟨w1.heap.size, 0, none⟩ 1 1 [.int .i64 y] rfl rfl (cell_one_new _ _ _) (by simp [Value.oneCell']) (by unfold maxLen; omega) (by omega) (by have := hmap1.lt; simp; omega) ?_; intro v' w2 hown2 hgrow2 hfr2))
            go_roundw
            case rel =>
              refine ⟨k + 1, by omega, by go_num, ?_, ?_, HO, ?_⟩
              · have := IRow.app hown2
                rw [HT.out]
                unfold pick at this ⊢
                rw [List.map_append, List.map_singleton, Int.toNat_natCast, HY.out]
                exact this
              · rw [HT.out, seenD_snoc]
                refine (hmap1.alloc _).kept hgrow2 (fun e => ?_)
                have := World.ownsRow.lt hown1 _ e.symm
                omega
              · exact (fb_alloc hbel1 _).grown hgrow2 (fb_alloc hbel1 _).size (fun j hj => by have := World.ownsRow.lt hown1 j hj; omega)
            case measure => simp [intOf]; omega
    · obtain rfl : n = k := by omega
      have hp : perm.take n = perm := List.take_of_length_le (by rw [HL.out.2]; exact Nat.le_refl _)
      have hok2 := hok.out
      rw [hp, List.drop_eq_nil_of_le (by rw [HL.out.2]; exact Nat.le_refl _)] at hok2
      have hT : turnOf l perm = pick l perm := by
        unfold turnOf
        rw [if_pos ⟨by rw [HL.out.1, HL.out.2], by rw [HL.out.1, ← hok2]; rfl⟩]
        rfl
      rw [hp] at hown
      have HT := Lib.hid hT
      clear hT hp hok hok2 hlt
      go_wp2
      go_ret
      exact ⟨_, rfl, by rw [HT.out]; exact hown.ints (Nat.le_refl _), hbel⟩

theorem turned_any (n : Nat) (u v : Value) (l m : List Int) (w : World) (h1 : Ints w n u l) (h2 : Ints w n v m) (hn : l.length ≤ 1000000) (hnw : n ≤ w.heap.size) :
    Calls Try.prog 12 #[u, v] w fun e w' => ∃ x, e = .returned x ∧ Ints w' w'.heap.size x (turnOf l m) ∧ Below w.heap.size w w' := by
  obtain ⟨x, c, rfl, p1⟩ := h1.parts
  obtain ⟨y, d, rfl, p2⟩ := h2.parts
  by_cases hl : l.length = m.length
  · rcases p1 with rfl | ⟨b, o, rfl, hb1, q1⟩
    · obtain rfl : m = [] := List.eq_nil_of_length_eq_zero hl.symm
      exact (turned_nil _ _ _ _ w).mono fun e w' ⟨he, hb⟩ => ⟨_, he, by rw [show turnOf [] [] = [] from rfl]; exact Ints.nil _ _, hb⟩
    · rcases p2 with rfl | ⟨b', o', rfl, hb2, q2⟩
      · obtain rfl : l = [] := List.eq_nil_of_length_eq_zero hl
        exact (turned_nil _ _ _ _ w).mono fun e w' ⟨he, hb⟩ => ⟨_, he, by rw [show turnOf [] [] = [] from rfl]; exact Ints.nil _ _, hb⟩
      · rw [← hl] at q2 ⊢
        exact turned_cells b o b' o' l.length c d l m w rfl hl.symm hn (by omega) (by omega) q1 q2
  · exact (turned_len _ _ _ _ _ _ hl w).mono fun e w' ⟨he, hb⟩ => ⟨_, he, by rw [show turnOf l m = [] from by unfold turnOf; rw [if_neg (fun h => hl h.1)]]; exact Ints.nil _ _, hb⟩
end Go.Proofs.Ytcehclagipdleaa
