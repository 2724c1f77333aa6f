/- The document's zones: Take, Reorder. No condition. The document's zones: Copy, New. No condition. The document's zones: Reorder. No condition. What ZonePlays holds, by colours. No condition. ZonePlays: what each act answers, of the zones and of the document's. No condition. ZonePlays: readers, marks, copies, rows over the bundle. No condition. ZonePlays: same; the start. No condition. -/
import Derived.Test.YtfkkkndigkchcaaZoneQ
import Derived.Test.YtfkkkndigkchcaaTrailMid
import Derived.Test.YtfkkkndigkchcaaZoneI
namespace Go.Proofs.Ytfkkkndigkchcaa
section
open Go.RowKit
attribute [local irreducible] Calls

section
variable {w w' : World} {base A sl : Nat} {lv : Value} {vals : List Value} {L : List (List Nat)}
theorem dztake_none (h : DZ w base A sl lv vals L) (ho : ZOk L sl) (s : Int) (hs : zno L s) : Calls Try.prog 68 #[.pointer (some ⟨A, 0, none⟩), .int .i64 s] w fun e w' => e = .returned (.int .i64 5) ∧ w = w' := by
  have hw := Lib.hid (dzwhere_any h ho s)
  have HS := Lib.hid hs
  clear h ho hs
  go_enter Try.func68, Try.ntmps68
  go_wp2_with (go_at_call 85; refine hw.out.mono ?_; rintro e w' ⟨r, rfl, hr, rfl⟩; obtain rfl := dwh_no hr HS.out; clear hr)
  go_ret
  exact ⟨rfl, rfl⟩
set_option maxRecDepth 100000 in
set_option maxHeartbeats 2000000 in
theorem dztake_ok (h : DZ w base A sl lv vals L) (ho : ZOk L sl) (z p : Nat) (s : Int) (hp : p < (L.getD z []).length) (he : (((L.getD z []).getD p 0 : Nat) : Int) = s) (hu : ∀ z' p' : Nat, p' < (L.getD z' []).length → (((L.getD z' []).getD p' 0 : Nat) : Int) = s → z' = z ∧ p' = p) :
    Calls Try.prog 68 #[.pointer (some ⟨A, 0, none⟩), .int .i64 s] w fun e w' => e = .returned (.int .i64 0) ∧ DZN w w' base A sl lv vals L z (takeL (L.getD z []) p) := by
  have hw := Lib.hid (dzwhere_any h ho s)
  have HU : Hid (∀ r, DWh L s r → r = .tuple #[.int .i64 (z : Int), .int .i64 (p : Int), .bool true]) := Lib.hid fun r hr => by
    obtain ⟨z', p', h1, h2, rfl⟩ := dwh_yes hr (fun hn => hn z _ (getD_mem' hp) he)
    obtain ⟨rfl, rfl⟩ := hu z' p' h1 h2
    rfl
  have hz : z < L.length := Nat.lt_of_not_le fun hh => by
    rw [List.getD_eq_getElem?_getD, List.getElem?_eq_none hh] at hp
    simp at hp
  obtain ⟨B, c, rfl⟩ := h.lf ho
  have c1 : w.cell? ⟨A, 1, none⟩ = some (.slice (some ⟨B, 0, none⟩) L.length c) := h.a.cell 1
  have hn := ho.n2
  have hle := ho.le z
  have hrow := h.e z hz
  obtain ⟨x, c', hv, c2⟩ := h.rc hz
  rw [hv] at hrow
  obtain ⟨l, hl⟩ : ∃ l, L.getD z [] = l := ⟨_, rfl⟩
  rw [hl] at hrow c2 hle hp ⊢
  obtain ⟨n, hnn⟩ : ∃ n, L.length = n := ⟨_, rfl⟩
  have hzn := hz
  rw [hnn] at c1 hn h hzn ⊢
  have HX := Lib.hid (And.intro h (And.intro hz (And.intro hl hnn)))
  have hform := hrow.formz
  rw [ints_length] at hform
  obtain ⟨g, cap, hv2, hcap⟩ := hform.resolve_left (fun hh => by have := congrArg List.length hh.2; rw [ints_length] at this; simp at this; rw [this] at hp; simp at hp)
  injection hv2 with hv1 _ hv3
  subst hv1 hv3
  obtain ⟨li, hli⟩ : ∃ li, ints l = li := ⟨_, rfl⟩
  have hll : li.length = l.length := by rw [← hli]; exact ints_length l
  obtain ⟨m, hm⟩ : ∃ m, l.length = m := ⟨_, rfl⟩
  rw [hli] at hrow
  rw [hm] at hrow hcap c2 hle hp hll
  have HL := Lib.hid (And.intro hli (And.intro hll hm))
  have z0 : (0 : Int) ≤ z := by omega
  have z1 : (z : Int) < n := by omega
  have p0 : (0 : Int) ≤ p := by omega
  have p1 : (p : Int) < m := by omega
  have hwr : IntKind.i64.wrap ((p : Int) + 1) = (p : Int) + 1 := by rw [IntKind.wrap_i64]; omega
  have p2 : (0 : Int) ≤ (p : Int) + 1 := by omega
  have p3 : (p : Int) + 1 ≤ m := by omega
  have p4 : ((p : Int) + 1).toNat = p + 1 := by omega
  have HR := Lib.hid hrow
  have hbs : base ≤ w.heap.size := by have := h.hb; have := h.a.lt; omega
  have hrw : ∀ w' : World, Below w.heap.size w w' → IRow w' base (.slice (some ⟨g, 0, none⟩) m c') li := fun w' hb => HR.out.below hb
  have hAB : A ≠ B := fun e => row_ne_arr HX.out.1.l HX.out.1.a (by decide) (by rw [e]; rfl)
  clear h ho hv hrow hnn hl hli hll hm hz hu he hform
  obtain ⟨lq, hlq⟩ : ∃ lq, li.take p ++ li.drop (p + 1) = lq := ⟨_, rfl⟩
  have HQ := Lib.hid hlq
  clear hlq
  have key : Calls Try.prog 68 #[.pointer (some ⟨A, 0, none⟩), .int .i64 s] w fun e w' => e = .returned (.int .i64 0) ∧ ∃ w5 v5 c5 a5, w' = w5.setCell ⟨B, z, none⟩ (.slice a5 v5 c5) ∧ Below w.heap.size w w5 ∧ IRow w5 w.heap.size (.slice a5 v5 c5) lq := by
    go_enter Try.func68, Try.ntmps68
    go_upto_region 5 with (go_at_call 85; refine hw.out.mono ?_; rintro e w' ⟨r, rfl, hr, rfl⟩; obtain rfl := HU.out _ hr; clear hr)
    go_upto_region 6 with (at_builtin; refine wpList_append_ints (base := w.heap.size) rfl (.tmp 18) (.tmp 27) rfl rfl (IRow.nil w w.heap.size) rfl ((SInts.own HR.out).take (Nat.le_of_lt hp)) (by have := HL.out.2.1; simp <;> omega) (Nat.le_refl _) ?_; intro v5 w5 hr5 hg5 hf5; have hb5 := (Below.refl _ w).grown hg5 (Nat.le_refl _) (fun k e => by cases e); rw [List.nil_append] at hr5; obtain ⟨l5, hl5⟩ : ∃ l5, li.take p = l5 := ⟨_, rfl⟩; rw [hl5] at hr5; have hl5l : l5.length = p := (by rw [← hl5, List.length_take, HL.out.2.1]; omega); obtain ⟨x5, d5, rfl⟩ := hr5.any; have H5 := Lib.hid (And.intro hr5 (And.intro hb5 (And.intro hl5 hl5l))); clear hr5 hg5 hf5 hb5 hl5 hl5l)
    have hdr : Below w5.heap.size w5 w5.drew := ⟨rfl, rfl, rfl, Nat.le_refl _, fun _ _ => rfl⟩
    have hb5' := H5.out.2.1.trans (hdr.mono H5.out.2.1.size)
    have HD := Lib.hid (And.intro (HX.out.1.below hb5') (And.intro hb5' (H5.out.1.below hdr)))
    have HZ := Lib.hid (And.intro H5.out.2.2.1 (And.intro H5.out.2.2.2 hrw))
    have cB0 : w5.drew.cell? ⟨B, z, none⟩ = some (.slice (some ⟨g, 0, none⟩) m c') := (HD.out.2.1.cell (p := ⟨B, z, none⟩) (World.ownsRow.lt HX.out.1.l B rfl).2).trans c2
    clear hb5' hdr H5 hrw
    have cA0 : w5.drew.cell? ⟨A, 1, none⟩ = some (.slice (some ⟨B, 0, none⟩) n c) := HD.out.1.a.cell 1
    go_region_law
      (first | (refine step_append_ints rfl (.tmp 34) (.tmp 44) rfl rfl HD.out.2.2 rfl (show SInts _ _ (m - (p + 1)) (li.drop (p + 1)) from (SInts.own (HZ.out.2.2 _ HD.out.2.1)).cut hcap (fun hh => by simp [hh])) (by have := HL.out.2.1; rw [HZ.out.2.1]; simp <;> omega) HD.out.2.1.size ?_; intro v7 w7 hr7 hg7 hf7; rw [← HZ.out.1, HQ.out] at hr7; obtain ⟨x7, d7, rfl⟩ := hr7.any; have hb7 := HD.out.2.1.grown hg7 HD.out.2.1.size (fun k e => (World.ownsRow.lt HD.out.2.2 k e).1); have HD7 := Lib.hid (And.intro (HX.out.1.below hb7) (And.intro hb7 hr7)); have fB := HD7.out.1.fz z; have cA7 : w7.cell? ⟨A, 1, none⟩ = some (.slice (some ⟨B, 0, none⟩) n c) := HD7.out.1.a.cell 1; obtain ⟨uB, cB⟩ := HD7.out.1.there HX.out.2.1; clear HD hr7 hg7 hf7 hb7; have HD := HD7; clear HD7))
    go_wp2
    all_goals (go_ret; exact ⟨rfl, w7, _, _, _, rfl, HD.out.2.1, HD.out.2.2⟩)
  refine key.mono ?_
  rintro e w' ⟨rfl, w5, v5, c5, a5, rfl, hb, hv⟩
  refine ⟨rfl, _, ((HX.out.1.below hb).mono (Nat.le_refl _)).put (l' := takeL l p) HX.out.2.1 ?_, (Moved.of_below hb _).trans (Moved.of_set w5 ⟨B, z, none⟩ _ (S := fun j => j = B) rfl) fun k hk => .inl (by rw [hk]; rfl), fun k hk => (World.ownsRow.lt hv k hk).1⟩
  rw [← ints_takeL, HL.out.1, HQ.out]
  exact own_mono' hv hbs
end
end
section
open Go.RowKit
attribute [local irreducible] Calls

theorem infoRow : (Try.prog.info? 34).map (fun i => (i.zero, i.size, i.bytes)) = some (some (.slice none 0 0), 1, 24) := by kernel_rfl
section
variable {w w' : World} {base A sl : Nat} {lv : Value} {vals : List Value} {L : List (List Nat)}
theorem keptRow {b : Nat} {e : TypeId} {size m : Nat} {v : Value} {xs : List Value} {row : Option Nat} (h : w.ownsRow b e size v m xs) (hg : w.grownBy w' row) (hne : ∀ k, v.ownBlock = some k → row ≠ some k) : w'.ownsRow b e size v m xs := by
  refine World.ownsRow.kept h hg ?_
  cases hv : v.ownBlock with
  | none => exact .inl rfl
  | some k => exact .inr fun e => hne k hv e.symm
theorem getD_snoc {α : Type} (l : List α) (x d : α) (j : Nat) : (l ++ [x]).getD j d = if j = l.length then x else l.getD j d := by
  rw [List.getD_eq_getElem?_getD, List.getD_eq_getElem?_getD]
  by_cases h : j < l.length
  · rw [if_neg (by omega), List.getElem?_append_left h]
  · by_cases e : j = l.length
    · rw [if_pos e, e]; simp
    · rw [if_neg e, List.getElem?_eq_none (by simp; omega), List.getElem?_eq_none (by omega)]
theorem takeL_snoc (l : List (List Nat)) {i : Nat} (h : i < l.length) : l.take (i + 1) = l.take i ++ [l.getD i []] := by
  rw [List.take_add_one, List.getElem?_eq_getElem h, List.getD_eq_getElem?_getD, List.getElem?_eq_getElem h]; rfl
theorem DZ.grow {v r : Value} {l' : List Nat} (h : DZ w base A sl lv vals L) (hv : w'.ownsRow base 34 1 v (vals.length + 1) (vals ++ [r])) (hg : w.grownBy w' lv.ownBlock) (hr : IRow w' base r (ints l')) :
    DZ (w'.setCell ⟨A, 1, none⟩ v) base A sl v (vals ++ [r]) (L ++ [l']) ∧ Arr w' A 117 [.int .i64 sl, lv] := by
  have a : Arr w' A 117 [.int .i64 sl, lv] := h.a.kept hg (fun e => row_ne_arr h.l h.a (by decide) e.symm)
  refine ⟨⟨a.set 1 v, ?_, by rw [List.length_append, List.length_append, h.n]; rfl, fun j hj => ?_, h.hb⟩, a⟩
  · rw [List.length_append]
    exact ownsRow_setCell_other hv (row_ne_arr hv a (by decide)) v
  · rw [getD_snoc, getD_snoc, h.n]
    split
    · exact hr.other _ _ (row_ne_arr hr a (by decide))
    · rename_i hne
      rw [List.length_append] at hj
      have hjl : j < L.length := by simp at hj; omega
      have hk : IRow w' base (vals.getD j (.slice none 0 0)) (ints (L.getD j [])) := keptRow (h.e j hjl) hg fun k hk => row_ne (h.e j hjl) h.l (by decide) hk
      exact hk.other _ _ (row_ne_arr hk a (by decide))
set_option maxRecDepth 100000 in
set_option maxHeartbeats 2000000 in
theorem dzcopy_any (h : DZ w base A sl lv vals L) (ho : ZOk L sl) : Calls Try.prog 70 #[.pointer (some ⟨A, 0, none⟩)] w fun e w' => ∃ A' lv' vals', e = .returned (.pointer (some ⟨A', 0, none⟩)) ∧ DZ w' w.heap.size A' sl lv' vals' L ∧ Below w.heap.size w w' := by
  obtain ⟨i0', hi, hy0, hy1, hy2⟩ := info_parts infoRow
  obtain ⟨B, c, rfl⟩ := h.lf ho
  have c0 : w.cell? ⟨A, 0, none⟩ = some (.int .i64 sl) := h.a.cell 0
  obtain ⟨n, hnn⟩ : ∃ n, L.length = n := ⟨_, rfl⟩
  have hn := ho.n2
  rw [hnn] at h hn
  have HX := Lib.hid (And.intro h (And.intro ho hnn))
  obtain ⟨N, hN⟩ : ∃ N, w.heap.size = N := ⟨_, rfl⟩
  clear h ho hnn
  go_enter Try.func70, Try.ntmps70
  go_wp2
  have HS := Lib.hid (show ∃ lv' vals', DZ (w.alloc (.cells #[.int .i64 sl, .slice none 0 0] 117)) N N sl lv' vals' (L.take 0) ∧ Below w.heap.size w (w.alloc (.cells #[.int .i64 sl, .slice none 0 0] 117)) from
    ⟨.slice none 0 0, [], ⟨by rw [← hN]; exact Arr.new w _ [.int .i64 sl, .slice none 0 0], World.ownsRow_nil _ _ _ _, rfl, fun j hj => (by simp at hj), Nat.le_refl _⟩, fb_alloc (Below.refl _ _) _⟩)
  have HN := Lib.hid hN
  clear hN
  go_loopw [4] (fun x wr => ∃ i : Nat, i ≤ n ∧ x = .int .i64 i ∧ Hid (∃ lv' vals', DZ wr N N sl lv' vals' (L.take i) ∧ Below w.heap.size w wr)) (fun x _ => n - (intOf x).toNat)
  case atStart => exact ⟨0, Nat.zero_le _, rfl, HS⟩
  case round =>
    obtain ⟨i, hil, rfl, hst⟩ := hrel
    obtain ⟨lv', vals', hD, hb⟩ := hst.out
    have hA := HX.out.1.below hb
    have cA : wr.cell? ⟨A, 1, none⟩ = some (.slice (some ⟨B, 0, none⟩) n c) := hA.a.cell 1
    by_cases hlt : i < n
    · obtain ⟨x, c', hv, _⟩ := HX.out.1.rc (j := i) (by rw [HX.out.2.2]; exact hlt)
      have hrow := hA.e i (by rw [HX.out.2.2]; exact hlt)
      rw [hv] at hrow
      have cB := (hA.rc (j := i) (by rw [HX.out.2.2]; exact hlt))
      rw [hv] at cB
      obtain ⟨x1, c1, e1, cB⟩ := cB
      rw [← e1] at cB
      have hle := HX.out.2.1.le i
      obtain ⟨li, hli⟩ : ∃ li, ints (L.getD i []) = li := ⟨_, rfl⟩
      have hll : li.length = (L.getD i []).length := by rw [← hli]; exact ints_length _
      obtain ⟨m, hm⟩ : ∃ m, (L.getD i []).length = m := ⟨_, rfl⟩
      rw [hli] at hrow
      rw [hm] at hrow cB hle hll
      have hvl : vals'.length = i := by rw [hD.n, List.length_take, HX.out.2.2]; omega
      have hlv : ∃ xl cl, lv' = .slice xl i cl := by
        have h1 := hD.l
        rw [hvl] at h1
        rcases h1.2 with ⟨rfl, h0⟩ | ⟨g, cap, cur, rfl, _⟩
        · exact ⟨none, 0, by rw [h0]⟩
        · exact ⟨_, _, rfl⟩
      obtain ⟨xl, cl, rfl⟩ := hlv
      have hdr : Below wr.heap.size wr wr.drew := ⟨rfl, rfl, rfl, Nat.le_refl _, fun _ _ => rfl⟩
      have cN0 : wr.drew.cell? ⟨N, 1, none⟩ = some (.slice xl i cl) := hD.a.cell 1
      have cA0 : wr.drew.cell? ⟨A, 1, none⟩ = some (.slice (some ⟨B, 0, none⟩) n c) := cA
      have cB0 : wr.drew.cell? ⟨B, i, none⟩ = some (.slice x m c') := cB
      have HD := Lib.hid (And.intro (hD.below hdr) (And.intro (hb.trans (hdr.mono hb.size)) (And.intro (hA.below hdr) (hrow.below hdr))))
      have HZ := Lib.hid (And.intro hli (And.intro hll (And.intro hvl e1)))
      have i0 : (0 : Int) ≤ i := by omega
      have i1 : (i : Int) < n := by omega
      clear hD hb hA hst hrow hv e1 hli hll hm hvl hdr
      go_upto_region 6 with fail
      go_region_law (first
        | (refine step_append_ints rfl (.tmp 26) (.tmp 33) rfl rfl (IRow.nil _ N) rfl (show SInts _ x m li from SInts.own HD.out.2.2.2) (by have := HZ.out.2.1; simp <;> omega) (by rw [← HN.out]; exact HD.out.2.1.size) ?_; intro v7 w7 hr7 hg7 hf7; rw [List.nil_append] at hr7; obtain ⟨x7, d7, rfl⟩ := hr7.any; have hb7 := (Below.refl _ wr.drew).grown hg7 (Nat.le_refl _) (fun k e => by cases e); have hb7a := fb_alloc hb7 (.cells #[.slice x7 li.length d7] 34); have HD7 := Lib.hid (And.intro (HD.out.1.below hb7a) (And.intro (HD.out.2.1.trans (hb7a.mono HD.out.2.1.size)) (hr7.alloc (.cells #[.slice x7 li.length d7] 34)))); have cN7 : w7.cell? ⟨N, 1, none⟩ = some (.slice xl i cl) := (HD.out.1.below hb7).a.cell 1; have cN8 : (w7.alloc (.cells #[.slice x7 li.length d7] 34)).cell? ⟨N, 1, none⟩ = some (.slice xl i cl) := HD7.out.1.a.cell 1; clear HD hr7 hg7 hf7 hb7 hb7a; have HD := HD7; clear HD7)
        | (refine step_append_own rfl (.tmp 25) (.tmp 35) 40 rfl N 34 i0' (.slice none 0 0) 1 24 Try.underlying40 hi hy0 hy1 hy2 rfl (by decide) (.slice xl i cl) i vals' (by simp [Act.eval]) (show _ from by have := HD.out.1.l; rw [HZ.out.2.2.1] at this; exact this) ⟨w7.heap.size, 0, none⟩ 1 1 [.slice x7 li.length d7] (by simp [Act.eval]) rfl (cell_one_new _ _ _) (by simp [Value.oneCell']) (by unfold maxLen; omega) (by omega) (by rw [← HN.out]; exact HD.out.2.1.size) ?_; intro v8 w8 hr8 hg8 hf8; obtain ⟨g8, c8, rfl⟩ := own_form hr8 (by omega); have hrow8 : IRow w8 N (.slice x7 li.length d7) (ints (L.getD i [])) := (by rw [HZ.out.1]; exact keptRow HD.out.2.2 hg8 fun k hk => row_ne HD.out.2.2 HD.out.1.l (by decide) hk); have hgr := HD.out.1.grow (r := .slice x7 li.length d7) (l' := L.getD i []) (by rw [HZ.out.2.2.1]; exact hr8) hg8 hrow8; have cN9 : w8.cell? ⟨N, 1, none⟩ = some (.slice xl i cl) := hgr.2.cell 1; have fN9 := hgr.2.frozen 1; have HD8 := Lib.hid (And.intro hgr.1 (HD.out.2.1.grown hg8 HD.out.2.1.size (fun k e => by rw [HN.out]; exact (World.ownsRow.lt HD.out.1.l k e).1))); clear HD hr8 hg8 hf8 hrow8 hgr; have HD := HD8; clear HD8))
      all_goals
        go_wp2
        go_roundw
        case rel =>
          refine ⟨i + 1, by omega, by go_num, Lib.hid ⟨.slice (some ⟨g8, 0, none⟩) (i + 1) c8, vals' ++ [.slice x7 li.length d7], ?_, HD.out.2.setCell (p := ⟨N, 1, none⟩) (by rw [HN.out]; exact Nat.le_refl _) (.slice (some ⟨g8, 0, none⟩) (i + 1) c8)⟩⟩
          rw [takeL_snoc L (by rw [HX.out.2.2]; exact hlt)]
          exact HD.out.1
        case measure => simp [intOf]; omega
    · obtain rfl : n = i := by omega
      have hfull : L.take n = L := List.take_of_length_le (by rw [HX.out.2.2]; exact Nat.le_refl _)
      rw [hfull] at hD
      have HD := Lib.hid (And.intro hD hb)
      clear hst hD hb hlt hA hfull hil
      go_wp2
      go_ret
      exact ⟨N, _, _, rfl, by rw [HN.out]; exact HD.out.1, HD.out.2⟩
theorem dznew_no (w : World) (z s : Int) (hbad : (z < 1 ∨ 64 < z) ∨ (s < 1 ∨ 256 < s)) : Calls Try.prog 66 #[.int .i64 z, .int .i64 s] w fun e w' => e = .returned (.pointer none) ∧ w = w' := by
  by_cases h0 : z < 1
  · clear hbad
    go_enter Try.func66, Try.ntmps66
    go_wp2
    go_ret
    exact ⟨rfl, rfl⟩
  · have h0' : 1 ≤ z := by omega
    by_cases h1 : 64 < z
    · clear hbad
      go_enter Try.func66, Try.ntmps66
      go_wp2
      go_ret
      exact ⟨rfl, rfl⟩
    · have h1' : z ≤ 64 := by omega
      by_cases h2 : s < 1
      · clear hbad
        go_enter Try.func66, Try.ntmps66
        go_wp2
        go_ret
        exact ⟨rfl, rfl⟩
      · have h2' : 1 ≤ s := by omega
        have h3' : 256 < s := by omega
        clear hbad
        go_enter Try.func66, Try.ntmps66
        go_wp2
        go_ret
        exact ⟨rfl, rfl⟩
theorem rep_getD {α : Type} (n j : Nat) (x d : α) (h : j < n) : (List.replicate n x).getD j d = x := by
  rw [List.getD_eq_getElem?_getD, List.getElem?_replicate, if_pos h]; rfl
set_option maxRecDepth 100000 in
theorem dznew_any (w : World) (z s : Nat) (z1 : 1 ≤ z) (z2 : z ≤ 64) (s1 : 1 ≤ s) (s2 : s ≤ 256) : Calls Try.prog 66 #[.int .i64 (z : Int), .int .i64 (s : Int)] w fun e w' => ∃ A lv vals, e = .returned (.pointer (some ⟨A, 0, none⟩)) ∧ DZ w' w.heap.size A s lv vals (List.replicate z []) ∧ Below w.heap.size w w' := by
  have hmb := run_make_arr (P := Try.prog) 40 34 (.slice none 0 0) 24 Try.underlying40 infoRow rfl z (by omega) (by omega) w
  have z1' : (1 : Int) ≤ z := by omega
  have z2' : (z : Int) ≤ 64 := by omega
  have s1' : (1 : Int) ≤ s := by omega
  have s2' : (s : Int) ≤ 256 := by omega
  obtain ⟨W, hW⟩ : ∃ W, w.alloc (.cells (List.replicate z (.slice none 0 0)).toArray 34) = W := ⟨_, rfl⟩
  rw [hW] at hmb
  have HW := Lib.hid hW
  clear hW
  go_enter Try.func66, Try.ntmps66
  go_wp2
  go_ret
  have hb : Below w.heap.size w W := by rw [← HW.out]; exact fb_alloc (Below.refl _ _) _
  have ha : Arr W w.heap.size 34 (List.replicate z (.slice none 0 0)) := by rw [← HW.out]; exact Arr.new w _ _
  refine ⟨W.heap.size, .slice (some ⟨w.heap.size, 0, none⟩) z z, List.replicate z (.slice none 0 0), rfl, ⟨Arr.new W 117 [.int .i64 s, .slice (some ⟨w.heap.size, 0, none⟩) z z], ?_, by simp, fun j hj => ?_, hb.size⟩, fb_alloc hb _⟩
  · have := (ha.alloc (.cells #[.int .i64 s, .slice (some ⟨w.heap.size, 0, none⟩) z z] 117)).own (base := w.heap.size) (Nat.le_refl _) (by simp [maxLen]; omega)
    simp only [List.length_replicate] at this ⊢
    exact this
  · rw [List.length_replicate] at hj
    rw [rep_getD _ _ _ _ hj, rep_getD _ _ _ _ hj]
    exact IRow.nil _ _
end
end
section
open Go.RowKit
attribute [local irreducible] Calls

section
variable {w w' : World} {base A sl : Nat} {lv : Value} {vals : List Value} {L : List (List Nat)}
theorem getD_mem_int {l : List Int} {j : Nat} (h : j < l.length) : l.getD j 0 ∈ l := by
  rw [List.getD_eq_getElem?_getD, List.getElem?_eq_getElem h]; exact List.getElem_mem _
theorem take_snoc (l : List Int) {i : Nat} (h : i < l.length) : l.take (i + 1) = l.take i ++ [l.getD i 0] := by
  rw [List.take_add_one, List.getElem?_eq_getElem h, List.getD_eq_getElem?_getD, List.getElem?_eq_getElem h]; rfl
theorem take_mem_get {l : List Int} {i : Nat} {x : Int} (h : x ∈ l.take i) : ∃ j, j < i ∧ j < l.length ∧ l.getD j 0 = x := by
  obtain ⟨j, hj, e⟩ := List.getElem_of_mem h
  rw [List.length_take] at hj
  refine ⟨j, by omega, by omega, ?_⟩
  rw [List.getElem_take] at e
  rw [List.getD_eq_getElem?_getD, List.getElem?_eq_getElem (by omega)]; exact e
theorem not_nodup {l : List Int} {i j : Nat} (hi : i < l.length) (hj : j < l.length) (hne : i ≠ j) (he : l.getD i 0 = l.getD j 0) : ¬ l.Nodup := fun hn => by
  rw [List.getD_eq_getElem?_getD, List.getD_eq_getElem?_getD, List.getElem?_eq_getElem hi, List.getElem?_eq_getElem hj] at he
  exact hne ((List.getElem_inj hn).1 he)
theorem ints_reL_snoc (l : List Nat) (a : List Int) (k : Int) : ints (reL l (a ++ [k])) = ints (reL l a) ++ [((l.getD k.toNat 0 : Nat) : Int)] := by simp [ints, reL]
theorem dzre_zone (h : DZ w base A sl lv vals L) (ho : ZOk L sl) (z : Int) (v : Value) (hz : z < 0 ∨ (L.length : Int) ≤ z) : Calls Try.prog 69 #[.pointer (some ⟨A, 0, none⟩), .int .i64 z, v] w fun e w' => e = .returned (.int .i64 2) ∧ w = w' := by
  have hz2 := Lib.hid (dzone_no h ho z hz)
  clear h ho hz
  go_enter Try.func69, Try.ntmps69
  go_wp2_with (go_at_call 84; refine hz2.out.mono ?_; rintro e w' ⟨rfl, rfl⟩)
  go_ret
  exact ⟨rfl, rfl⟩
theorem dzre_len (h : DZ w base A sl lv vals L) (ho : ZOk L sl) (z : Nat) (hz : z < L.length) (a : Option Addr) (k c2 : Nat) (hne : k ≠ (L.getD z []).length) : Calls Try.prog 69 #[.pointer (some ⟨A, 0, none⟩), .int .i64 (z : Int), .slice a k c2] w fun e w' => e = .returned (.int .i64 2) ∧ w = w' := by
  have hz2 := Lib.hid (dzone_yes h ho z hz)
  obtain ⟨B, c, rfl⟩ := h.lf ho
  have c1 : w.cell? ⟨A, 1, none⟩ = some (.slice (some ⟨B, 0, none⟩) L.length c) := h.a.cell 1
  have hn := ho.n2
  have hle := ho.le z
  obtain ⟨x, c', hv, c2⟩ := h.rc hz
  generalize (L.getD z []).length = m at c2 hne hle
  generalize L.length = n at c1 hz hn hz2
  have hB : ((k : Int) != (m : Int)) = true := by simp; omega
  have z0 : (0 : Int) ≤ z := by omega
  have z1 : (z : Int) < n := by omega
  clear h ho hv hne
  go_enter Try.func69, Try.ntmps69
  go_wp2_with (go_at_call 84; refine hz2.out.mono ?_; rintro e w' ⟨rfl, rfl⟩)
  go_ret
  exact ⟨rfl, rfl⟩
set_option maxRecDepth 100000 in
set_option maxHeartbeats 2000000 in
theorem dzre_go (h : DZ w base A sl lv vals L) (ho : ZOk L sl) (z : Nat) (hz : z < L.length) (ao : Option Addr) (pc : Nat) (pm : List Int) (hpl : pm.length = (L.getD z []).length) (hp4 : pm.length ≤ 40)
    (hc : pm = [] ∨ ∃ pb po, ao = some ⟨pb, po, none⟩ ∧ pb < w.heap.size ∧ ∀ j, j < pm.length → w.cell? ⟨pb, po + j, none⟩ = some (.int .i64 (pm.getD j 0))) :
    Calls Try.prog 69 #[.pointer (some ⟨A, 0, none⟩), .int .i64 (z : Int), .slice ao pm.length pc] w fun e w' =>
      (permOk pm (L.getD z []).length = true ∧ e = .returned (.int .i64 0) ∧ DZN w w' base A sl lv vals L z (reL (L.getD z []) pm)) ∨ (permOk pm (L.getD z []).length = false ∧ e = .returned (.int .i64 2) ∧ Below w.heap.size w w') := by
  have hz2 := Lib.hid (dzone_yes h ho z hz)
  obtain ⟨B, c, rfl⟩ := h.lf ho
  have c1 : w.cell? ⟨A, 1, none⟩ = some (.slice (some ⟨B, 0, none⟩) L.length c) := h.a.cell 1
  have hn := ho.n2
  have hle := ho.le z
  obtain ⟨x, c', hv, c2⟩ := h.rc hz
  obtain ⟨l, hl⟩ : ∃ l, L.getD z [] = l := ⟨_, rfl⟩
  rw [hl] at c2 hle hpl ⊢
  obtain ⟨n, hnn⟩ : ∃ n, L.length = n := ⟨_, rfl⟩
  have hzn := hz
  rw [hnn] at c1 hn h hzn ⊢
  have HAT : Hid (∀ wy k, Below w.heap.size w wy → Calls Try.prog 71 #[.pointer (some ⟨A, 0, none⟩), .int .i64 (z : Int), .int .i64 k] wy fun e w' => e = .returned (.tuple #[.int .i64 (zat L z k).1, .int .i64 (zat L z k).2]) ∧ wy = w') := Lib.hid fun wy k hb => dzat_any (h.below hb) ho (z : Int) k
  obtain ⟨m, hm⟩ : ∃ m, l.length = m := ⟨_, rfl⟩
  rw [hm] at c2 hle hpl ⊢
  rw [hpl] at hp4 hc ⊢
  have HX := Lib.hid (And.intro h (And.intro hz (And.intro hl (And.intro hnn (And.intro hm hpl)))))
  have HC := Lib.hid hc
  have HP := Lib.hid (permOk_iff pm m)
  have z0 : (0 : Int) ≤ z := by omega
  have z1 : (z : Int) < n := by omega
  have hB : ((m : Int) != (m : Int)) = false := by simp
  have hbs : base ≤ w.heap.size := by have := h.hb; have := h.a.lt; omega
  clear h ho hv hnn hl hm hz hpl hc
  go_enter Try.func69, Try.ntmps69
  go_upto_region 4 with (go_at_call 84; refine hz2.out.mono ?_; rintro e w' ⟨rfl, rfl⟩)
  go_wp2
  go_loopw [7, 8] (fun ov x8 wr => ∃ i : Nat, i ≤ m ∧ x8 = .int .i64 i ∧ Hid (IRow wr w.heap.size ov (ints (reL l (pm.take i))) ∧ Below w.heap.size w wr ∧ (∀ k ∈ pm.take i, 0 ≤ k ∧ k < (m : Int)) ∧ (pm.take i).Nodup)) (fun _ x8 _ => m - (intOf x8).toNat)
  case atStart => exact ⟨0, Nat.zero_le _, rfl, Lib.hid ⟨IRow.nil _ _, Below.refl _ _, fun k hk => by simp at hk, by simp⟩⟩
  case round =>
    obtain ⟨i, hil, rfl, hst⟩ := hrel
    by_cases hlt : i < m
    · obtain ⟨pb, po, rfl, hpb, hcell⟩ := HC.out.resolve_left (fun e => by have := HX.out.2.2.2.2.2; rw [e] at this; simp at this; omega)
      have HCC := Lib.hid (And.intro hpb hcell)
      obtain ⟨xo, co, hov⟩ := hst.out.1.any
      subst hov
      obtain ⟨lo, hlo⟩ : ∃ lo, ints (reL l (pm.take i)) = lo := ⟨_, rfl⟩
      have hlol : lo.length = i := by rw [← hlo, ints_length, reL_len, List.length_take, HX.out.2.2.2.2.2]; omega
      rw [hlo] at hst ⊢
      have HLO := Lib.hid (And.intro hlo hlol)
      obtain ⟨pi, hpi⟩ : ∃ pi, pm.getD i 0 = pi := ⟨_, rfl⟩
      have HPI := Lib.hid hpi
      have i0 : (0 : Int) ≤ i := by omega
      have i1 : (i : Int) < m := by omega
      obtain ⟨wc, rfl⟩ : ∃ wo : World, wo = wr := ⟨_, rfl⟩
      clear hpb hcell hlo hlol hpi
      go_wp2
      go_loopw [9] (fun x9 wz => ∃ k : Nat, k ≤ i ∧ x9 = .int .i64 k ∧ Hid ((∀ j : Nat, j < k → pm.getD j 0 ≠ pi) ∧ Below wc.heap.size wc wz)) (fun x9 _ => i - (intOf x9).toNat)
      case atStart => exact ⟨0, Nat.zero_le _, rfl, Lib.hid ⟨fun j hj => by omega, Below.refl _ _⟩⟩
      case round =>
        obtain ⟨k, hki, rfl, hin⟩ := hrel
        have hbw := hst.out.2.1.trans (hin.out.2.mono hst.out.2.1.size)
        have HBW := Lib.hid hbw
        by_cases hlk : k < i
        · have ck : wr.cell? ⟨pb, po + k, none⟩ = some (.int .i64 (pm.getD k 0)) := (hbw.cell (p := ⟨pb, po + k, none⟩) HCC.out.1).trans (HCC.out.2 k (by omega))
          have ci : wr.cell? ⟨pb, po + i, none⟩ = some (.int .i64 pi) := by rw [← HPI.out]; exact (hbw.cell (p := ⟨pb, po + i, none⟩) HCC.out.1).trans (HCC.out.2 i (by omega))
          obtain ⟨pk, hpk⟩ : ∃ pk, pm.getD k 0 = pk := ⟨_, rfl⟩
          rw [hpk] at ck
          have HPK := Lib.hid hpk
          have k0 : (0 : Int) ≤ k := by omega
          have k1 : (k : Int) < i := by omega
          have k2 : (k : Int) < m := by omega
          clear hpk hbw
          by_cases he : pk = pi
          · subst he
            have HBAD := Lib.hid (show permOk pm m = false by
              cases hh : permOk pm m with
              | false => rfl
              | true => exact absurd (HP.out.1 hh).2.2 (not_nodup (i := k) (j := i) (by rw [HX.out.2.2.2.2.2]; omega) (by rw [HX.out.2.2.2.2.2]; omega) (by omega) (HPK.out.trans HPI.out.symm)))
            go_upto_region 10 with fail
            go_quiet (fail)
            go_wp2
            go_ret
            exact .inr ⟨HBAD.out, rfl, bel_drewN HBW.out _⟩
          · have hB2 : (pk == pi) = false := by simp [he]
            go_upto_region 10 with fail
            go_quiet (fail)
            go_wp2
            go_roundw
            case rel =>
              exact ⟨k + 1, by omega, by go_num, Lib.hid ⟨fun j hj => by
                by_cases e : j = k
                · subst e; rw [HPK.out]; exact he
                · exact hin.out.1 j (by omega), bel_drewN hin.out.2 _⟩⟩
            case measure => simp [intOf]; omega
        · obtain rfl : i = k := by omega
          have ci : wr.cell? ⟨pb, po + i, none⟩ = some (.int .i64 pi) := by rw [← HPI.out]; exact (hbw.cell (p := ⟨pb, po + i, none⟩) HCC.out.1).trans (HCC.out.2 i (by omega))
          have HROW := Lib.hid (hst.out.1.below hin.out.2)
          have hat := HAT.out wr pi HBW.out
          unfold zat at hat
          rw [zget_nat, HX.out.2.2.1, HX.out.2.2.2.2.1] at hat
          clear hbw hlk
          by_cases hp : 0 ≤ pi ∧ pi < (m : Int)
          · rw [if_pos hp] at hat
            obtain ⟨y, hy⟩ : ∃ y, l.getD pi.toNat 0 = y := ⟨_, rfl⟩
            rw [hy] at hat
            have HY := Lib.hid (And.intro hy hp)
            have HA := Lib.hid hat
            clear hat hy hp
            go_upto_region 13 with (go_at_call 71; refine HA.out.mono ?_; rintro e w' ⟨rfl, rfl⟩)
            go_wp2_with (at_builtin; refine wpList_append_ints (base := w.heap.size) rfl (.tmp 61) (.tmp 63) rfl rfl (HROW.out.alloc (.cells #[.int .i64 (y : Int)] 3)) rfl (SInts.own (one_ownz wr (y : Int))) (by have := HLO.out.2; simp <;> omega) (fb_alloc HBW.out (.cells #[.int .i64 (y : Int)] 3)).size ?_; intro v7 w7 hr7 hg7 hf7; have hb7 := (fb_alloc HBW.out (.cells #[.int .i64 (y : Int)] 3)).grown hg7 (fb_alloc HBW.out (.cells #[.int .i64 (y : Int)] 3)).size (fun k e => (World.ownsRow.lt HROW.out k e).1); have H7 := Lib.hid (And.intro hr7 hb7); clear hr7 hg7 hf7 hb7)
            go_roundw
            case rel =>
              have hsn := take_snoc pm (i := i) (by rw [HX.out.2.2.2.2.2]; omega)
              rw [HPI.out] at hsn
              refine ⟨i + 1, by omega, by go_num, Lib.hid ⟨?_, H7.out.2, ?_, ?_⟩⟩
              · rw [hsn, ints_reL_snoc, HLO.out.1, HY.out.1]; exact H7.out.1
              · intro k hk
                rw [hsn] at hk
                rcases List.mem_append.1 hk with hk | hk
                · exact hst.out.2.2.1 k hk
                · rw [List.mem_singleton.1 hk]; exact HY.out.2
              · rw [hsn]
                refine List.nodup_append.2 ⟨hst.out.2.2.2, by simp, fun a ha b hb e => ?_⟩
                obtain ⟨j, hj, _, e2⟩ := take_mem_get ha
                exact hin.out.1 j hj (by rw [e2, e, List.mem_singleton.1 hb])
            case measure => simp [intOf]; omega
          · rw [if_neg hp] at hat
            have HA := Lib.hid hat
            have HBAD := Lib.hid (show permOk pm m = false by
              cases hh : permOk pm m with
              | false => rfl
              | true => exact absurd ((HP.out.1 hh).2.1 pi (by rw [← HPI.out]; exact getD_mem_int (by rw [HX.out.2.2.2.2.2]; omega))) hp)
            clear hat hp
            go_upto_region 13 with (go_at_call 71; refine HA.out.mono ?_; rintro e w' ⟨rfl, rfl⟩)
            go_wp2
            go_ret
            exact .inr ⟨HBAD.out, rfl, HBW.out⟩
    · obtain rfl : m = i := by omega
      have hfull : pm.take m = pm := List.take_of_length_le (by rw [HX.out.2.2.2.2.2]; exact Nat.le_refl _)
      rw [hfull] at hst
      have HOK := Lib.hid (HP.out.2 ⟨HX.out.2.2.2.2.2, hst.out.2.2.1, hst.out.2.2.2⟩)
      obtain ⟨xo, co, hov⟩ := hst.out.1.any
      subst hov
      obtain ⟨lo, hlo⟩ : ∃ lo, ints (reL l pm) = lo := ⟨_, rfl⟩
      rw [hlo] at hst ⊢
      have D := HX.out.1.below hst.out.2.1
      have a1 : wr.cell? ⟨A, 1, none⟩ = some (.slice (some ⟨B, 0, none⟩) n c) := D.a.cell 1
      have fB := D.fz z
      obtain ⟨uB, cB⟩ := D.there HX.out.2.1
      have HD := Lib.hid (And.intro D (And.intro hst.out.1 (And.intro hst.out.2.1 hlo)))
      clear D hst hlt hlo hil hfull
      go_wp2
      go_ret
      refine .inl ⟨HOK.out, rfl, _, HD.out.1.put (l' := reL l pm) HX.out.2.1 ?_, (Moved.of_below HD.out.2.2.1 _).trans (Moved.of_set wr ⟨B, z, none⟩ _ (S := fun j => j = B) rfl) fun k hk => .inl (by rw [hk]; rfl), fun k hk => (World.ownsRow.lt HD.out.2.1 k hk).1⟩
      rw [HD.out.2.2.2]
      exact own_mono' HD.out.2.1 hbs
end
end
section
open Go.RowKit
attribute [local irreducible] Calls

/-- The document's zones, their blocks of the colour c. -/
def ZDC (w : World) (col : Nat → Nat) (c base A sl : Nat) (L : List (List Nat)) : Prop := ∃ lv vals, DZ w base A sl lv vals L ∧ ∀ j, dzB A lv vals j → col j = c
section
variable {w w' : World} {col : Nat → Nat} {c a base A sl : Nat} {L L' : List (List Nat)} {S : Nat → Prop}
theorem ZDC.step (h : ZDC w col c base A sl L) (hm : Moved w w' S) (hS : ∀ k, S k → k < w.heap.size → col k = a) (hne : c ≠ a) : ZDC w' (recol w.heap.size col a) c base A sl L := by
  obtain ⟨lv, vals, h1, h2⟩ := h
  exact ⟨lv, vals, h1.moved hm fun j hj hs => hne ((h2 j hj).symm.trans (hS j hs (h1.lt hj).2)), fun j hj => (recol_lt (h1.lt hj).2).trans (h2 j hj)⟩
theorem ZDC.made (x : Nat) (h : ZDC w col c base A sl L) (hb : Below w.heap.size w w') : ZDC w' (recol w.heap.size col x) c base A sl L := by
  obtain ⟨lv, vals, h1, h2⟩ := h
  exact ⟨lv, vals, h1.below hb, fun j hj => (recol_lt (h1.lt hj).2).trans (h2 j hj)⟩
theorem ZDC.fresh (x : Nat) {lv : Value} {vals : List Value} (h : DZ w' w.heap.size A sl lv vals L) (hb : base ≤ w.heap.size) : ZDC w' (recol w.heap.size col x) x base A sl L :=
  ⟨lv, vals, h.mono hb, fun _ hj => recol_ge (h.lt hj).1⟩
theorem getD_set_sub {vals : List Value} {z k : Nat} {v : Value} {j : Nat} (h : ((vals.set z v).getD k (.slice none 0 0)).ownBlock = some j) : v.ownBlock = some j ∨ (vals.getD k (.slice none 0 0)).ownBlock = some j := by
  rw [List.getD_eq_getElem?_getD, List.getElem?_set] at h
  by_cases e : z = k
  · rw [if_pos e] at h
    split at h
    · exact .inl h
    · cases h
  · rw [if_neg e, ← List.getD_eq_getElem?_getD] at h
    exact .inr h
theorem ZDC.own {lv : Value} {vals : List Value} {z : Nat} {l' : List Nat} (h1 : DZ w base A sl lv vals L) (h2 : ∀ j, dzB A lv vals j → col j = c) (h3 : DZN w w' base A sl lv vals L z l') : ZDC w' (recol w.heap.size col c) c base A sl (L.set z l') ∧ Moved w w' (dzB A lv vals) := by
  obtain ⟨v', h4, h5, h6⟩ := h3
  refine ⟨⟨_, _, h4, fun j hj => ?_⟩, h5.os, h5.tape, h5.output, h5.size, fun k hk hn => h5.block k hk fun hs => hn (.inr (.inl hs))⟩
  have old : dzB A lv vals j → recol w.heap.size col c j = c := fun hj => (recol_lt (h1.lt hj).2).trans (h2 j hj)
  rcases hj with hj | hj | ⟨k, hk, hj⟩
  · exact old (.inl hj)
  · exact old (.inr (.inl hj))
  · rw [List.length_set] at hk
    rcases getD_set_sub hj with hj | hj
    · exact recol_ge (h6 j hj)
    · exact old (.inr (.inr ⟨k, hk, hj⟩))
end
/-- A kept copy: where, its colour, its lists. -/
structure ZE1 where
  p : Nat
  c : Nat
  L : List (List Nat)
structure ZY where
  k : Nat
  q : List Int × List (Int × Int)
  L : List (List Nat)
  Rp : Nat
  cr : Nat
  nx : Nat
  Ld : List (List Nat)
  kv : Value
  ks : List Int
  sv : Value
  ps : List ZE1
  X : Nat
  xs : List Value
def zptrs (ps : List ZE1) : List Value := ps.map fun p => .pointer (some ⟨p.p, 0, none⟩)
structure ZP (x : Nat) (w0 w : World) (col : Nat → Nat) (b : ZB) (g : ZG) (s : ZY) : Prop where
  bel : Below w0.heap.size w0 w
  lo : ∀ j, j < w0.heap.size → col j = 0
  z : x ≠ 1 → ZL w0 w col 1 b g s.k s.q s.L
  d : x ≠ s.cr → ZDC w col s.cr w0.heap.size s.Rp g.slots s.Ld
  sd : ∀ p ∈ s.ps, x ≠ p.c → ZDC w col p.c w0.heap.size p.p g.slots p.L
  mm : x ≠ 5 → RowC w col 5 w0.heap.size 3 1 s.kv s.ks.length (s.ks.map (Value.int .i64))
  sv : x ≠ 6 → RowC w col 6 w0.heap.size 83 1 s.sv s.ps.length (zptrs s.ps)
  bx : x ≠ 7 → Arr w s.X 87 s.xs ∧ col s.X = 7
  c1 : 10 ≤ s.cr ∧ s.cr < s.nx
  c2 : ∀ p ∈ s.ps, 10 ≤ p.c ∧ p.c < s.nx ∧ p.c ≠ s.cr
  c3 : (s.ps.map (·.c)).Nodup
def ZQ (w0 w : World) (b : ZB) (g : ZG) (s : ZY) : Prop := ∃ col, ZP 0 w0 w col b g s
section
variable {w0 w w' : World} {col : Nat → Nat} {n : Nat} {b : ZB} {g : ZG} {s : ZY} {S : Nat → Prop}
theorem ZP.rest {a : Nat} (h : ZP 0 w0 w col b g s) (hbel : Below w0.heap.size w0 w') (hm : Moved w w' S) (hS : ∀ k, S k → k < w.heap.size → col k = a) (ha : a ≠ 1 → ZL w0 w' (recol w.heap.size col a) 1 b g s.k s.q s.L) : ZP a w0 w' (recol w.heap.size col a) b g s := by
  have hx := h.bx (by decide)
  refine ⟨hbel, fun j hj => (recol_lt (Nat.lt_of_lt_of_le hj h.bel.size)).trans (h.lo j hj), ha, fun hn => (h.d (by have := h.c1; omega)).step hm hS (Ne.symm hn), fun p hp hn => (h.sd p hp (by have := h.c2 p hp; omega)).step hm hS (Ne.symm hn), fun hn => (h.mm (by decide)).step hm hS (Ne.symm hn), fun hn => (h.sv (by decide)).step hm hS (Ne.symm hn), fun hn => ⟨?_, (recol_lt hx.1.lt).trans hx.2⟩, h.c1, h.c2, h.c3⟩
  exact (hm.block s.X hx.1.lt fun hs => hn ((hS s.X hs hx.1.lt).symm.trans hx.2)).trans hx.1
theorem ZP.moved {a : Nat} (h : ZP 0 w0 w col b g s) (hm : Moved w w' S) (hS : ∀ k, S k → k < w.heap.size → col k = a) (hb : ∀ k, S k → w0.heap.size ≤ k) : ZP a w0 w' (recol w.heap.size col a) b g s :=
  h.rest (h.bel.trans (hm.below hb h.bel.size)) hm hS fun hn => (h.z (by decide)).moved hm hS hb (Ne.symm hn)
theorem ZP.made (a : Nat) (h : ZP 0 w0 w col b g s) (hb : Below w.heap.size w w') : ZP 0 w0 w' (recol w.heap.size col a) b g s := by
  have hx := h.bx (by decide)
  exact ⟨fb_call h.bel hb, fun j hj => (recol_lt (Nat.lt_of_lt_of_le hj h.bel.size)).trans (h.lo j hj), fun _ => (h.z (by decide)).below hb a, fun hn => (h.d hn).made a hb, fun p hp hn => (h.sd p hp hn).made a hb, fun _ => (h.mm (by decide)).made a hb, fun _ => (h.sv (by decide)).made a hb, fun _ => ⟨(hb.block _ hx.1.lt).trans hx.1, (recol_lt hx.1.lt).trans hx.2⟩, h.c1, h.c2, h.c3⟩
theorem ZP.dd (h : ZP 0 w0 w col b g s) : ZDC w col s.cr w0.heap.size s.Rp g.slots s.Ld := h.d (by have := h.c1; omega)
theorem ZQ.bel (h : ZQ w0 w b g s) : Below w0.heap.size w0 w := by obtain ⟨_, h⟩ := h; exact h.bel
theorem ZQ.box (h : ZQ w0 w b g s) : Arr w s.X 87 s.xs := by obtain ⟨_, h⟩ := h; exact (h.bx (by decide)).1
theorem ZQ.marks (h : ZQ w0 w b g s) : IRow w w0.heap.size s.kv s.ks := by obtain ⟨_, h⟩ := h; exact (h.mm (by decide)).1
theorem ZQ.saved (h : ZQ w0 w b g s) : w.ownsRow w0.heap.size 83 1 s.sv s.ps.length (zptrs s.ps) := by obtain ⟨_, h⟩ := h; exact (h.sv (by decide)).1
theorem ZQ.below (h : ZQ w0 w b g s) (hb : Below w.heap.size w w') : ZQ w0 w' b g s := by obtain ⟨_, h⟩ := h; exact ⟨_, h.made 0 hb⟩
theorem ZQ.zl (h : ZQ w0 w b g s) : ∃ col, ZL w0 w col 1 b g s.k s.q s.L := by obtain ⟨_, h⟩ := h; exact ⟨_, h.z (by decide)⟩
theorem ZQ.ok (h : ZQ w0 w b g s) : ZOk s.L g.slots := by
  obtain ⟨col, hz⟩ := h.zl
  have hs := hz.sm
  exact ⟨by rw [hz.zl]; exact hs.z1, by rw [hz.zl]; exact hs.z2, hs.s2, fun j => Nat.le_trans (hz.le j) hs.s2⟩
theorem ZP.onZ {k' : Nat} {L' : List (List Nat)} (h : ZP 0 w0 w col b g s) (hN : ZLN w0 w w' col 1 b g k' s.q L') : ZQ w0 w' b g { s with k := k', L := L' } := by
  have k := h.rest (a := 1) hN.st.bel hN.mv (fun k hk _ => hk) (fun hn => absurd rfl hn)
  exact ⟨_, k.bel, k.lo, fun _ => hN.st, fun _ => k.d (by have := h.c1; omega), fun p hp _ => k.sd p hp (by have := h.c2 p hp; omega), fun _ => k.mm (by decide), fun _ => k.sv (by decide), fun _ => k.bx (by decide), h.c1, h.c2, h.c3⟩
theorem ZP.onD {z : Nat} {l' : List Nat} {lv : Value} {vals : List Value} (h : ZP 0 w0 w col b g s) (h1 : DZ w w0.heap.size s.Rp g.slots lv vals s.Ld) (h2 : ∀ j, dzB s.Rp lv vals j → col j = s.cr) (h3 : DZN w w' w0.heap.size s.Rp g.slots lv vals s.Ld z l') : ZQ w0 w' b g { s with Ld := s.Ld.set z l' } := by
  obtain ⟨h4, h5⟩ := ZDC.own h1 h2 h3
  have k := h.moved (a := s.cr) h5 (fun k hk _ => h2 k hk) (fun k hk => (h1.lt hk).1)
  have c1 := h.c1
  exact ⟨_, k.bel, k.lo, fun _ => k.z (by omega), fun _ => h4, fun p hp _ => k.sd p hp (Ne.symm (h.c2 p hp).2.2), fun _ => k.mm (by omega), fun _ => k.sv (by omega), fun _ => k.bx (by omega), h.c1, h.c2, h.c3⟩
end
end
section
open Go.RowKit
attribute [local irreducible] Calls

/-- Where a number stands is told by it. -/
def Uq (L : List (List Nat)) : Prop := ∀ z j z' j' : Nat, j < (L.getD z []).length → j' < (L.getD z' []).length → (L.getD z []).getD j 0 = (L.getD z' []).getD j' 0 → z = z' ∧ j = j'
open Classical in
/-- Put's answer, and the lists behind it. -/
noncomputable def putE (L : List (List Nat)) (sl : Nat) (z i s : Int) : Int × List (List Nat) :=
  if (0 ≤ z ∧ z < (L.length : Int)) ∧ (0 ≤ s ∧ s < (sl : Int)) ∧ (-1 ≤ i ∧ i ≤ ((zget L z).length : Int)) then
    (if zno L s then (0, L.set z.toNat (putL (zget L z) (if i < 0 then (zget L z).length else i.toNat) s.toNat)) else (11, L))
  else (2, L)
def isAt (L : List (List Nat)) (s : Int) (p : Nat × Nat) : Prop := p.2 < (L.getD p.1 []).length ∧ (((L.getD p.1 []).getD p.2 0 : Nat) : Int) = s
open Classical in
noncomputable def takeE (L : List (List Nat)) (s : Int) : Int × List (List Nat) :=
  if h : ∃ p, isAt L s p then (0, L.set h.choose.1 (takeL (L.getD h.choose.1 []) h.choose.2)) else (5, L)
open Classical in
noncomputable def reE (L : List (List Nat)) (z : Int) (pm : List Int) : Int × List (List Nat) :=
  if (0 ≤ z ∧ z < (L.length : Int)) ∧ permOk pm (zget L z).length = true then (0, L.set z.toNat (reL (zget L z) pm)) else (2, L)
theorem not_zno {L : List (List Nat)} {s : Int} (h : ¬ zno L s) : ∃ p, isAt L s p := by
  refine Classical.byContradiction fun hn => h fun z t ht e => ?_
  obtain ⟨j, hj, e2⟩ := mem_getD ht
  exact hn ⟨(z, j), hj, by rw [e2]; exact e⟩
theorem is_zno {L : List (List Nat)} {s : Int} (h : ¬ ∃ p, isAt L s p) : zno L s := Classical.byContradiction fun hn => h (not_zno hn)
section
variable {w0 w w' : World} {n : Nat} {b : ZB} {g : ZG} {s : ZY}
theorem ZQ.uq (h : ZQ w0 w b g s) : Uq s.L := by
  obtain ⟨col, hz⟩ := h.zl
  intro z j z' j' hj hj' e
  have e1 : z = z' := hz.one (getD_mem' hj) (e ▸ getD_mem' hj')
  subst e1
  refine ⟨rfl, ?_⟩
  have hn := hz.nodup z
  obtain ⟨l, hl⟩ : ∃ l, s.L.getD z [] = l := ⟨_, rfl⟩
  rw [hl] at hn hj hj' e
  rw [List.getD_eq_getElem?_getD, List.getD_eq_getElem?_getD, List.getElem?_eq_getElem hj, List.getElem?_eq_getElem hj'] at e
  exact (List.getElem_inj hn).1 e
theorem ZQ.len (h : ZQ w0 w b g s) : s.L.length = g.zones := by obtain ⟨col, hz⟩ := h.zl; exact hz.zl
theorem ZQ.mono {k' : Nat} (h : ZQ w0 w b g s) (hk : s.k ≤ k') : ZQ w0 w b g { s with k := k' } := by
  obtain ⟨_, h⟩ := h
  exact ⟨_, h.bel, h.lo, fun hn => (h.z hn).mono hk, h.d, h.sd, h.mm, h.sv, h.bx, h.c1, h.c2, h.c3⟩
theorem ZQ.same (h : ZQ w0 w b g s) (hb : Below w.heap.size w w') : ZQ w0 w' b g { s with k := s.k + 1000 } := (h.below hb).mono (by omega)
theorem zq_put (h : ZQ w0 w b g s) (hk : s.k ≤ 800000000) (z i t : Int) : Calls Try.prog 37 #[.pointer (some ⟨b.Z, 0, none⟩), .int .i64 z, .int .i64 i, .int .i64 t] w fun e w' => e = .returned (.int .i64 (putE s.L g.slots z i t).1) ∧ ZQ w0 w' b g { s with k := s.k + 1000, L := (putE s.L g.slots z i t).2 } := by
  have hq := h
  obtain ⟨col, h⟩ := h
  have hz := h.z (by decide)
  unfold putE
  rw [hz.zl]
  by_cases hb : (0 ≤ z ∧ z < (g.zones : Int)) ∧ (0 ≤ t ∧ t < (g.slots : Int)) ∧ (-1 ≤ i ∧ i ≤ ((zget s.L z).length : Int))
  · rw [if_pos hb]
    obtain ⟨⟨a1, a2⟩, ⟨a3, a4⟩, a5, a6⟩ := hb
    obtain ⟨z', rfl⟩ := Int.eq_ofNat_of_zero_le a1
    obtain ⟨t', rfl⟩ := Int.eq_ofNat_of_zero_le a3
    rw [zget_nat] at a6 ⊢
    by_cases hn : zno s.L (t' : Int)
    · rw [if_pos hn, Int.toNat_natCast, Int.toNat_natCast]
      by_cases hi : i < 0
      · obtain rfl : i = -1 := by omega
        rw [if_pos hi]
        exact (zl_put_end hz hk z' t' (by omega) (by omega) hn).mono fun e w' ⟨he, hN⟩ => ⟨he, h.onZ hN⟩
      · obtain ⟨i', rfl⟩ := Int.eq_ofNat_of_zero_le (show 0 ≤ i by omega)
        rw [if_neg hi, Int.toNat_natCast]
        exact (zl_put hz hk z' t' i' (by omega) (by omega) hn (by omega)).mono fun e w' ⟨he, hN⟩ => ⟨he, h.onZ hN⟩
    · rw [if_neg hn]
      obtain ⟨⟨x, j⟩, hj, he⟩ := not_zno hn
      rw [← he]
      exact (zl_put_twice hz z' x j i (by omega) hj a5 a6).mono fun e w' ⟨he, hN⟩ => ⟨he, hq.same hN⟩
  · rw [if_neg hb]
    exact (zl_put_arg hz z i t (by omega)).mono fun e w' ⟨he, hN⟩ => ⟨he, hq.same hN⟩
theorem dq_put (h : ZQ w0 w b g s) (ho : ZOk s.Ld g.slots) (z i t : Int) : Calls Try.prog 67 #[.pointer (some ⟨s.Rp, 0, none⟩), .int .i64 z, .int .i64 i, .int .i64 t] w fun e w' => e = .returned (.int .i64 (putE s.Ld g.slots z i t).1) ∧ ZQ w0 w' b g { s with Ld := (putE s.Ld g.slots z i t).2 } := by
  have hq := h
  obtain ⟨col, h⟩ := h
  obtain ⟨lv, vals, h1, h2⟩ := h.dd
  unfold putE
  by_cases hz : z < 0 ∨ (s.Ld.length : Int) ≤ z
  · rw [if_neg (fun hh => by omega)]
    exact (dzput_zone h1 ho z i t hz).mono fun e w' ⟨he, hN⟩ => ⟨he, hN ▸ hq⟩
  · obtain ⟨z', rfl⟩ := Int.eq_ofNat_of_zero_le (show 0 ≤ z by omega)
    rw [zget_nat]
    by_cases hb : (0 ≤ (z' : Int) ∧ (z' : Int) < (s.Ld.length : Int)) ∧ (0 ≤ t ∧ t < (g.slots : Int)) ∧ (-1 ≤ i ∧ i ≤ ((s.Ld.getD z' []).length : Int))
    · rw [if_pos hb]
      obtain ⟨⟨a1, a2⟩, ⟨a3, a4⟩, a5, a6⟩ := hb
      obtain ⟨t', rfl⟩ := Int.eq_ofNat_of_zero_le a3
      by_cases hn : zno s.Ld (t' : Int)
      · rw [if_pos hn, Int.toNat_natCast, Int.toNat_natCast]
        refine (dzput_ok h1 ho z' (if i < 0 then (s.Ld.getD z' []).length else i.toNat) t' i (by omega) (by omega) ?_ ?_ hn).mono fun e w' ⟨he, hN⟩ => ⟨he, h.onD h1 h2 hN⟩
        · split <;> omega
        · split <;> omega
      · rw [if_neg hn]
        exact (dzput_twice h1 ho z' i t' (by omega) a3 a4 a5 a6 hn).mono fun e w' ⟨he, hN⟩ => ⟨he, hN ▸ hq⟩
    · rw [if_neg hb]
      exact (dzput_arg h1 ho z' i t (by omega) (by omega)).mono fun e w' ⟨he, hN⟩ => ⟨he, hN ▸ hq⟩
theorem zq_take (h : ZQ w0 w b g s) (hk : s.k ≤ 800000000) (t : Int) : Calls Try.prog 40 #[.pointer (some ⟨b.Z, 0, none⟩), .int .i64 t] w fun e w' => e = .returned (.int .i64 (takeE s.L t).1) ∧ ZQ w0 w' b g { s with k := s.k + 1000, L := (takeE s.L t).2 } := by
  have hq := h
  obtain ⟨col, h⟩ := h
  have hz := h.z (by decide)
  unfold takeE
  by_cases hn : ∃ p, isAt s.L t p
  · rw [dif_pos hn]
    have hc := hn.choose_spec
    generalize hn.choose = p at hc ⊢
    have := zl_take hz hk p.1 p.2 hc.1
    rw [hc.2] at this
    exact this.mono fun e w' ⟨he, hN⟩ => ⟨he, h.onZ hN⟩
  · rw [dif_neg hn]
    exact (zl_take_none hz t (is_zno hn)).mono fun e w' ⟨he, hN⟩ => ⟨he, hq.same hN⟩
theorem dq_take (h : ZQ w0 w b g s) (ho : ZOk s.Ld g.slots) (hu : Uq s.Ld) (t : Int) : Calls Try.prog 68 #[.pointer (some ⟨s.Rp, 0, none⟩), .int .i64 t] w fun e w' => e = .returned (.int .i64 (takeE s.Ld t).1) ∧ ZQ w0 w' b g { s with Ld := (takeE s.Ld t).2 } := by
  have hq := h
  obtain ⟨col, h⟩ := h
  obtain ⟨lv, vals, h1, h2⟩ := h.dd
  unfold takeE
  by_cases hn : ∃ p, isAt s.Ld t p
  · rw [dif_pos hn]
    have hc := hn.choose_spec
    generalize hn.choose = p at hc ⊢
    refine (dztake_ok h1 ho p.1 p.2 t hc.1 hc.2 fun z' p' h3 h4 => hu z' p' p.1 p.2 h3 hc.1 ?_).mono fun e w' ⟨he, hN⟩ => ⟨he, h.onD h1 h2 hN⟩
    have := hc.2
    omega
  · rw [dif_neg hn]
    exact (dztake_none h1 ho t (is_zno hn)).mono fun e w' ⟨he, hN⟩ => ⟨he, hN ▸ hq⟩
theorem zl_re_nil {col : Nat → Nat} {c k : Nat} {q : List Int × List (Int × Int)} {L : List (List Nat)} (h : ZL w0 w col c b g k q L) (z : Int) (x : Option Addr) (c' : Nat) :
    Calls Try.prog 63 #[.pointer (some ⟨b.Z, 0, none⟩), .int .i64 z, .slice x 0 c'] w fun e w' =>
      (((0 ≤ z ∧ z < (g.zones : Int)) ∧ permOk [] (zget L z).length = true) ∧ e = .returned (.int .i64 0) ∧ ZLN w0 w w' col c b g (k + 1000) q (L.set z.toNat (reL (zget L z) []))) ∨
      (¬ ((0 ≤ z ∧ z < (g.zones : Int)) ∧ permOk [] (zget L z).length = true) ∧ e = .returned (.int .i64 2) ∧ Below w.heap.size w w') := by
  by_cases hz : z < 0 ∨ (g.zones : Int) ≤ z
  · obtain ⟨m, h, hr⟩ := h
    exact (re_zone h z hz _).mono fun e w' h1 => .inr ⟨fun h2 => by omega, h1⟩
  · obtain ⟨z', rfl⟩ := Int.eq_ofNat_of_zero_le (show 0 ≤ z by omega)
    have hz' : z' < g.zones := by omega
    rw [zget_nat, Int.toNat_natCast]
    obtain ⟨m, h, hr⟩ := h
    have hcnt := hr.cnt z' hz'
    by_cases h0 : (L.getD z' []).length = 0
    · have hL0 : L.getD z' [] = [] := List.eq_nil_of_length_eq_zero h0
      rw [hL0] at hcnt ⊢
      refine (re_empty h z' hz' hcnt x c').mono fun e w' h1 => .inl ⟨⟨⟨by omega, by omega⟩, rfl⟩, h1.1, m, (ZSN.same h h1.2).mono (by omega), ?_⟩
      rw [List.set_self L z' [] (reL [] []) hL0]; exact hr
    · refine (re_len h z' hz' _ hcnt x _ c' (fun e => h0 e.symm)).mono fun e w' h1 => .inr ⟨fun h2 => h0 ((permOk_iff _ _).1 h2.2).1.symm, h1⟩
theorem zq_re (h : ZQ w0 w b g s) (hk : s.k ≤ 800000000) (z : Int) (v : Value) (pm : List Int) (hv : Ints w0 w0.heap.size v pm) : Calls Try.prog 63 #[.pointer (some ⟨b.Z, 0, none⟩), .int .i64 z, v] w fun e w' => e = .returned (.int .i64 (reE s.L z pm).1) ∧ ZQ w0 w' b g { s with k := s.k + 1000, L := (reE s.L z pm).2 } := by
  have hq := h
  obtain ⟨col, h⟩ := h
  have hz := h.z (by decide)
  have hv' := (hv.below h.bel (Nat.le_refl _)).mono h.bel.size
  unfold reE
  rw [hz.zl]
  rcases hv with ⟨rfl, a, c, rfl, _⟩ | ⟨b2, o2, c2, rfl, _, hb2, _⟩
  · refine (zl_re_nil hz z a c).mono ?_
    rintro e w' (⟨h1, he, hN⟩ | ⟨h1, he, hN⟩)
    · rw [if_pos h1]; exact ⟨he, h.onZ hN⟩
    · rw [if_neg h1]; exact ⟨he, hq.same hN⟩
  · have hvo : ∀ bl o n' c', Value.slice (some ⟨b2, o2, none⟩) pm.length c2 = .slice (some ⟨bl, o, none⟩) n' c' → col bl ≠ 1 := fun bl o n' c' e2 => by
      injection e2 with e2 _ _
      injection e2 with e2
      injection e2 with e2
      subst e2
      rw [h.lo _ hb2]; decide
    by_cases hb : (0 ≤ z ∧ z < (g.zones : Int)) ∧ permOk pm (zget s.L z).length = true
    · rw [if_pos hb]
      exact (zl_re_ok hz hk z _ pm hv' hvo hb).mono fun e w' ⟨he, hN⟩ => ⟨he, h.onZ hN⟩
    · rw [if_neg hb]
      exact (zl_re_bad hz z _ pm hv' hvo hb hk).mono fun e w' ⟨he, hN⟩ => ⟨he, hq.same hN⟩
theorem dq_re (h : ZQ w0 w b g s) (ho : ZOk s.Ld g.slots) (z : Int) (v : Value) (pm : List Int) (hp : pm.length ≤ 40) (hv : Ints w0 w0.heap.size v pm) : Calls Try.prog 69 #[.pointer (some ⟨s.Rp, 0, none⟩), .int .i64 z, v] w fun e w' => e = .returned (.int .i64 (reE s.Ld z pm).1) ∧ ZQ w0 w' b g { s with Ld := (reE s.Ld z pm).2 } := by
  have hq := h
  obtain ⟨col, h⟩ := h
  obtain ⟨lv, vals, h1, h2⟩ := h.dd
  have hv' := (hv.below h.bel (Nat.le_refl _)).mono h.bel.size
  unfold reE
  by_cases hz : z < 0 ∨ (s.Ld.length : Int) ≤ z
  · rw [if_neg (fun hh => by omega)]
    exact (dzre_zone h1 ho z v hz).mono fun e w' ⟨he, hN⟩ => ⟨he, hN ▸ hq⟩
  · obtain ⟨z', rfl⟩ := Int.eq_ofNat_of_zero_le (show 0 ≤ z by omega)
    rw [zget_nat, Int.toNat_natCast]
    obtain ⟨x, c', rfl, p1⟩ := hv'.parts
    by_cases hl : pm.length = (s.Ld.getD z' []).length
    · refine (dzre_go h1 ho z' (by omega) x c' pm hl hp p1).mono ?_
      rintro e w' (⟨h3, he, hN⟩ | ⟨h3, he, hN⟩)
      · rw [if_pos ⟨⟨by omega, by omega⟩, h3⟩]
        exact ⟨he, h.onD h1 h2 hN⟩
      · rw [if_neg (fun hh => by rw [h3] at hh; exact absurd hh.2 (by decide))]
        exact ⟨he, hq.below hN⟩
    · rw [if_neg (fun hh => hl ((permOk_iff _ _).1 hh.2).1)]
      exact (dzre_len h1 ho z' (by omega) x _ c' hl).mono fun e w' ⟨he, hN⟩ => ⟨he, hN ▸ hq⟩
end
end
section
open Go.RowKit
attribute [local irreducible] Calls

open Classical in
/-- Where's answer. -/
noncomputable def whE (L : List (List Nat)) (s : Int) : Int × Int × Bool :=
  if h : ∃ p, isAt L s p then ((h.choose.1 : Nat), (h.choose.2 : Nat), true) else (0, 0, false)
section
variable {w0 w w' : World} {col : Nat → Nat} {n : Nat} {b : ZB} {g : ZG} {s : ZY}
theorem zq_len (h : ZQ w0 w b g s) (z : Int) : Calls Try.prog 42 #[.pointer (some ⟨b.Z, 0, none⟩), .int .i64 z] w fun e w' => e = .returned (.int .i64 (zget s.L z).length) ∧ Below w.heap.size w w' := by
  obtain ⟨_, h⟩ := h; exact zl_len (h.z (by decide)) z
theorem zq_list (h : ZQ w0 w b g s) (z : Int) : Calls Try.prog 39 #[.pointer (some ⟨b.Z, 0, none⟩), .int .i64 z] w fun e w' => ∃ r, e = .returned r ∧ IRow w' w.heap.size r (ints (zget s.L z)) ∧ Below w.heap.size w w' := by
  obtain ⟨_, h⟩ := h; exact zl_list (h.z (by decide)) z
theorem zq_at (h : ZQ w0 w b g s) (z i : Int) : Calls Try.prog 64 #[.pointer (some ⟨b.Z, 0, none⟩), .int .i64 z, .int .i64 i] w fun e w' => e = .returned (.tuple #[.int .i64 (zat s.L z i).1, .int .i64 (zat s.L z i).2]) ∧ Below w.heap.size w w' := by
  obtain ⟨_, h⟩ := h; exact zl_at (h.z (by decide)) z i
theorem zq_where (h : ZQ w0 w b g s) (t : Int) : Calls Try.prog 38 #[.pointer (some ⟨b.Z, 0, none⟩), .int .i64 t] w fun e w' => e = .returned (.tuple #[.int .i64 (whE s.L t).1, .int .i64 (whE s.L t).2.1, .bool (whE s.L t).2.2]) ∧ Below w.heap.size w w' := by
  obtain ⟨_, h⟩ := h
  have hz := h.z (by decide)
  unfold whE
  by_cases hn : ∃ p, isAt s.L t p
  · rw [dif_pos hn]
    have hc := hn.choose_spec
    generalize hn.choose = p at hc ⊢
    have := zl_where_yes hz p.1 p.2 hc.1
    rw [hc.2] at this
    exact this
  · rw [dif_neg hn]
    exact zl_where_no hz t (is_zno hn)
theorem dq_list (h : ZQ w0 w b g s) (ho : ZOk s.Ld g.slots) (z : Int) : Calls Try.prog 86 #[.pointer (some ⟨s.Rp, 0, none⟩), .int .i64 z] w fun e w' => ∃ r, e = .returned r ∧ IRow w w0.heap.size r (ints (zget s.Ld z)) ∧ w = w' := by
  obtain ⟨_, h⟩ := h
  obtain ⟨_, _, h1, _⟩ := h.dd
  exact dzlist_any h1 ho z
theorem dq_at (h : ZQ w0 w b g s) (ho : ZOk s.Ld g.slots) (z i : Int) : Calls Try.prog 71 #[.pointer (some ⟨s.Rp, 0, none⟩), .int .i64 z, .int .i64 i] w fun e w' => e = .returned (.tuple #[.int .i64 (zat s.Ld z i).1, .int .i64 (zat s.Ld z i).2]) ∧ w = w' := by
  obtain ⟨_, h⟩ := h
  obtain ⟨_, _, h1, _⟩ := h.dd
  exact dzat_any h1 ho z i
theorem dq_where (h : ZQ w0 w b g s) (ho : ZOk s.Ld g.slots) (hu : Uq s.Ld) (t : Int) : Calls Try.prog 85 #[.pointer (some ⟨s.Rp, 0, none⟩), .int .i64 t] w fun e w' => e = .returned (.tuple #[.int .i64 (whE s.Ld t).1, .int .i64 (whE s.Ld t).2.1, .bool (whE s.Ld t).2.2]) ∧ w = w' := by
  obtain ⟨_, h⟩ := h
  obtain ⟨_, _, h1, _⟩ := h.dd
  refine (dzwhere_any h1 ho t).mono fun e w' ⟨r, he, hr, hw⟩ => ⟨?_, hw⟩
  rw [he]
  unfold whE
  by_cases hn : ∃ p, isAt s.Ld t p
  · rw [dif_pos hn]
    have hc := hn.choose_spec
    generalize hn.choose = p at hc ⊢
    obtain ⟨z, j, hj, e1, rfl⟩ := dwh_yes hr (fun hh => hh p.1 _ (getD_mem' hc.1) hc.2)
    obtain ⟨rfl, rfl⟩ := hu z j p.1 p.2 hj hc.1 (by have := hc.2; omega)
    rfl
  · rw [dif_neg hn, dwh_no hr (is_zno hn)]
/-- What the document's holds of the program's fields. -/
theorem dq_cells (h : ZQ w0 w b g s) (ho : ZOk s.Ld g.slots) : ∃ B c, w.cell? ⟨s.Rp, 0, none⟩ = some (.int .i64 g.slots) ∧ w.cell? ⟨s.Rp, 1, none⟩ = some (.slice (some ⟨B, 0, none⟩) s.Ld.length c) := by
  obtain ⟨_, h⟩ := h
  obtain ⟨_, _, h1, _⟩ := h.dd
  obtain ⟨B, c, rfl⟩ := h1.lf ho
  exact ⟨B, c, h1.a.cell 0, h1.a.cell 1⟩
theorem zq_mark (h : ZQ w0 w b g s) : Calls Try.prog 26 #[.pointer (some ⟨b.T, 0, none⟩)] w fun e w' => ∃ q' x, e = .returned (.int .i64 x) ∧ ZLMark g s.k q' s.L x ∧ ZQ w0 w b g { s with q := q' } ∧ Hist s.q q' ∧ w = w' := by
  obtain ⟨_, h⟩ := h
  exact (zl_mark (h.z (by decide))).mono fun e w' ⟨q', x, he, h1, h2, h3⟩ => ⟨q', x, he, h1, ⟨_, h.bel, h.lo, fun _ => h2, h.d, h.sd, h.mm, h.sv, h.bx, h.c1, h.c2, h.c3⟩, h3⟩
theorem ZQ.hist {q' : List Int × List (Int × Int)} (h : ZQ w0 w b g s) (hh : Hist q' s.q) : ZQ w0 w b g { s with q := q' } := by
  obtain ⟨_, h⟩ := h
  exact ⟨_, h.bel, h.lo, fun hn => (h.z hn).ofHist hh, h.d, h.sd, h.mm, h.sv, h.bx, h.c1, h.c2, h.c3⟩
theorem ZLMark.mono {k k' : Nat} {q : List Int × List (Int × Int)} {L : List (List Nat)} {x : Int} (h : ZLMark g k q L x) (hk : k ≤ k') : ZLMark g k' q L x := by
  obtain ⟨m, ⟨h1, h2, h3⟩, h4⟩ := h
  exact ⟨m, ⟨h1, h2, by omega⟩, h4⟩
theorem zq_back (h : ZQ w0 w b g s) (hk : s.k ≤ 800000000) {L' : List (List Nat)} {x : Int} (hm : ZLMark g s.k s.q L' x) : Calls Try.prog 24 #[.pointer (some ⟨b.T, 0, none⟩), .int .i64 x] w fun e w' => e = .returned (.int .i64 0) ∧ ZQ w0 w' b g { s with L := L' } := by
  obtain ⟨_, h⟩ := h
  exact (zl_back (h.z (by decide)) (by omega) hm).mono fun e w' ⟨he, hN⟩ => ⟨he, h.onZ hN⟩
theorem ZQ.app5 {v : Value} {x : Int} (h : ZQ w0 w b g s) (hw : IRow w' w0.heap.size v (s.ks ++ [x])) (hg : w.grownBy w' s.kv.ownBlock) (hf : ∀ k, v.ownBlock = some k → s.kv.ownBlock = some k ∨ w.heap.size ≤ k) : ZQ w0 w' b g { s with kv := v, ks := s.ks ++ [x] } := by
  obtain ⟨_, h⟩ := h
  have hm := h.mm (by decide)
  have k := h.moved (a := 5) (moved_grown hg) (fun k hk _ => hm.2 k hk) (row_base hm.1)
  exact ⟨_, k.bel, k.lo, fun _ => k.z (by decide), fun _ => k.d (by have := h.c1; omega), fun p hp _ => k.sd p hp (by have := h.c2 p hp; omega), fun _ => hm.grew hw hf, fun _ => k.sv (by decide), fun _ => k.bx (by decide), h.c1, h.c2, h.c3⟩
/-- A copy of the document's. -/
theorem dq_copy (h : ZQ w0 w b g s) (ho : ZOk s.Ld g.slots) : Calls Try.prog 70 #[.pointer (some ⟨s.Rp, 0, none⟩)] w fun e w' => ∃ A', e = .returned (.pointer (some ⟨A', 0, none⟩)) ∧ Below w.heap.size w w' ∧ ∃ col, ZP 0 w0 w' col b g s ∧ ZDC w' col s.nx w0.heap.size A' g.slots s.Ld := by
  obtain ⟨_, h⟩ := h
  obtain ⟨lv, vals, h1, h2⟩ := h.dd
  exact (dzcopy_any h1 ho).mono fun e w' ⟨A', lv', vals', he, h3, hb⟩ => ⟨A', he, hb, _, h.made s.nx hb, ZDC.fresh s.nx h3 h.bel.size⟩
theorem ZP.app6 {v : Value} {A' : Nat} {L' : List (List Nat)} (h : ZP 0 w0 w col b g s) (hd : ZDC w col s.nx w0.heap.size A' g.slots L') (hw : w'.ownsRow w0.heap.size 83 1 v (s.ps.length + 1) (zptrs s.ps ++ [.pointer (some ⟨A', 0, none⟩)])) (hg : w.grownBy w' s.sv.ownBlock) (hf : ∀ k, v.ownBlock = some k → s.sv.ownBlock = some k ∨ w.heap.size ≤ k) : ZQ w0 w' b g { s with nx := s.nx + 1, sv := v, ps := s.ps ++ [⟨A', s.nx, L'⟩] } := by
  have hm := h.sv (by decide)
  have k := h.moved (a := 6) (moved_grown hg) (fun k hk _ => hm.2 k hk) (row_base hm.1)
  have c1 := h.c1
  refine ⟨_, k.bel, k.lo, fun _ => k.z (by decide), fun _ => k.d (by omega), fun p hp _ => ?_, fun _ => k.mm (by decide), fun _ => ?_, fun _ => k.bx (by decide), ⟨c1.1, by show s.cr < s.nx + 1; omega⟩, fun p hp => ?_, ?_⟩
  · rcases List.mem_append.1 hp with hp | hp
    · exact k.sd p hp (by have := h.c2 p hp; omega)
    · rw [List.mem_singleton.1 hp]
      exact hd.step (moved_grown hg) (fun k hk _ => hm.2 k hk) (by omega)
  · show RowC _ _ 6 _ _ 1 v (s.ps ++ [(⟨A', s.nx, L'⟩ : ZE1)]).length (zptrs (s.ps ++ [(⟨A', s.nx, L'⟩ : ZE1)]))
    rw [List.length_append, show zptrs (s.ps ++ [(⟨A', s.nx, L'⟩ : ZE1)]) = zptrs s.ps ++ [.pointer (some ⟨A', 0, none⟩)] from by unfold zptrs; rw [List.map_append]; rfl]
    exact hm.grew hw hf
  · show 10 ≤ p.c ∧ p.c < s.nx + 1 ∧ p.c ≠ s.cr
    rcases List.mem_append.1 hp with hp | hp
    · have := h.c2 p hp; omega
    · rw [List.mem_singleton.1 hp]; show 10 ≤ s.nx ∧ s.nx < s.nx + 1 ∧ s.nx ≠ s.cr; omega
  · show ((s.ps ++ [(⟨A', s.nx, L'⟩ : ZE1)]).map (·.c)).Nodup
    rw [List.map_append]
    refine List.nodup_append.2 ⟨h.c3, by simp, fun a ha b hb e => ?_⟩
    obtain ⟨p, hp, rfl⟩ := List.mem_map.1 ha
    have hb' : b = s.nx := by simpa using hb
    have := h.c2 p hp
    omega
theorem zrowTake {w : World} {base : Nat} {e : TypeId} {B n m cap : Nat} {xs : List Value} (h : w.ownsRow base e 1 (.slice (some ⟨B, 0, none⟩) n cap) n xs) (hm : m ≤ n) : w.ownsRow base e 1 (.slice (some ⟨B, 0, none⟩) m cap) m (xs.take m) := by
  have hl := h.1
  rcases h.2 with ⟨hv, _⟩ | ⟨g, c, cur, hv, hb, hg, hn, hmx, hs, ht⟩
  · cases hv
  · injection hv with e1 _ e3
    injection e1 with e1
    injection e1 with e1
    subst e1 e3
    refine ⟨by simp at hl ⊢; omega, .inr ⟨B, cap, cur, rfl, hb, hg, by omega, hmx, hs, ?_⟩⟩
    rw [← ht, List.take_take]
    congr 1; omega
theorem ZQ.cut5 {B m cap : Nat} (h : ZQ w0 w b g s) (hks : s.ks.length = m + 1) (hv : s.kv = .slice (some ⟨B, 0, none⟩) (m + 1) cap) : ZQ w0 w b g { s with kv := .slice (some ⟨B, 0, none⟩) m cap, ks := s.ks.take m } := by
  obtain ⟨_, h⟩ := h
  refine ⟨_, h.bel, h.lo, h.z, h.d, h.sd, fun _ => ?_, h.sv, h.bx, h.c1, h.c2, h.c3⟩
  have hm := h.mm (by decide)
  rw [hks, hv] at hm
  show RowC _ _ 5 _ _ 1 _ (s.ks.take m).length _
  rw [List.length_take, show min m s.ks.length = m by omega, List.map_take]
  exact ⟨zrowTake hm.1 (by omega), fun k hk => hm.2 k hk⟩
/-- Back to the last copy, which is taken off. -/
theorem ZQ.cut6 {B cap : Nat} {ps : List ZE1} {p : ZE1} (h : ZQ w0 w b g s) (hps : s.ps = ps ++ [p]) (hv : s.sv = .slice (some ⟨B, 0, none⟩) (ps.length + 1) cap) : ZQ w0 w b g { s with Rp := p.p, cr := p.c, Ld := p.L, sv := .slice (some ⟨B, 0, none⟩) ps.length cap, ps := ps } := by
  obtain ⟨_, h⟩ := h
  have hpm : p ∈ s.ps := by rw [hps]; simp
  have c2 := h.c2 p hpm
  have c3 := h.c3
  rw [hps, List.map_append] at c3
  have c3' := List.nodup_append.1 c3
  refine ⟨_, h.bel, h.lo, h.z, fun hn => h.sd p hpm (by omega), fun r hr hn => h.sd r (by rw [hps]; simp [hr]) hn, h.mm, fun _ => ?_, h.bx, ⟨c2.1, c2.2.1⟩, fun r hr => ?_, c3'.1⟩
  · have hm := h.sv (by decide)
    rw [hps, hv] at hm
    show RowC _ _ 6 _ _ 1 _ ps.length (zptrs ps)
    have e : (zptrs (ps ++ [p])).take ps.length = zptrs ps := by unfold zptrs; rw [List.map_append]; exact List.take_left' (by simp)
    rw [← e]
    have hm1 := hm.1
    rw [List.length_append] at hm1
    exact ⟨zrowTake hm1 (by omega), fun k hk => hm.2 k hk⟩
  · have := h.c2 r (by rw [hps]; simp [hr])
    exact ⟨this.1, this.2.1, fun e => c3'.2.2 r.c (List.mem_map_of_mem hr) p.c (by simp) e⟩
/-- Between two acts. -/
def ZR (w0 w : World) (b : ZB) (g : ZG) (s : ZY) : Prop := ∃ col, ZP 7 w0 w col b g s
theorem ZQ.rest (h : ZQ w0 w b g s) : ZR w0 w b g s := by
  obtain ⟨_, h⟩ := h
  have c1 := h.c1
  exact ⟨_, h.bel, h.lo, fun _ => h.z (by decide), fun _ => h.d (by omega), fun p hp _ => h.sd p hp (by have := h.c2 p hp; omega), fun _ => h.mm (by decide), fun _ => h.sv (by decide), fun hn => absurd rfl hn, h.c1, h.c2, h.c3⟩
theorem ZR.bel (h : ZR w0 w b g s) : Below w0.heap.size w0 w := by obtain ⟨_, h⟩ := h; exact h.bel
/-- A new act. -/
theorem ZR.act {X' : Nat} {xs' : List Value} (h : ZR w0 w b g s) (hb : Below w.heap.size w w') (ha : Arr w' X' 87 xs') (hX : w.heap.size ≤ X') : ZQ w0 w' b g { s with X := X', xs := xs' } := by
  obtain ⟨_, h⟩ := h
  have c1 := h.c1
  exact ⟨_, fb_call h.bel hb, fun j hj => (recol_lt (Nat.lt_of_lt_of_le hj h.bel.size)).trans (h.lo j hj), fun _ => (h.z (by decide)).below hb 7, fun _ => (h.d (by omega)).made 7 hb, fun p hp _ => (h.sd p hp (by have := h.c2 p hp; omega)).made 7 hb, fun _ => (h.mm (by decide)).made 7 hb, fun _ => (h.sv (by decide)).made 7 hb, fun _ => ⟨ha, recol_ge hX⟩, h.c1, h.c2, h.c3⟩
theorem zown_any {b : Nat} {e : TypeId} {size m : Nat} {v : Value} {xs : List Value} (h : w.ownsRow b e size v m xs) : ∃ x cap, v = .slice x m cap := by
  rcases h.2 with ⟨hv, h0⟩ | ⟨g, cap, _, hv, _⟩
  · exact ⟨none, 0, by rw [h0]; exact hv⟩
  · exact ⟨_, cap, hv⟩
end
/-- The marks kept, the last one first. -/
structure ZEM where
  q : List Int × List (Int × Int)
  L : List (List Nat)
  x : Int
  p : Nat
  c : Nat
def ZChn (g : ZG) (k : Nat) : List Int × List (Int × Int) → List ZEM → Prop
  | _, [] => True
  | q, e :: r => Hist e.q q ∧ ZLMark g k e.q e.L e.x ∧ ZChn g k e.q r
theorem ZChn.mono {g : ZG} {k n : Nat} (hn : k ≤ n) : ∀ {q : List Int × List (Int × Int)} {S : List ZEM}, ZChn g k q S → ZChn g n q S
  | _, [], _ => trivial
  | _, _ :: _, h => ⟨h.1, h.2.1.mono hn, ZChn.mono hn h.2.2⟩
theorem ZChn.hist {g : ZG} {k : Nat} {q q' : List Int × List (Int × Int)} {S : List ZEM} (h : ZChn g k q S) (hh : Hist q q') : ZChn g k q' S := by
  cases S with
  | nil => trivial
  | cons e r => exact ⟨h.1.trans hh, h.2⟩
theorem infoPZ : (Try.prog.info? 83).map (fun i => (i.zero, i.size, i.bytes)) = some (some (.pointer none), 1, 8) := by kernel_rfl
end
section
open Go.RowKit
attribute [local irreducible] Calls

section
variable {w0 w w' : World} {b : ZB} {g : ZG} {s : ZY}
theorem alk_self (l : List Int) : alk l l = true := by simp [alk]
def zmin (x y : Int) : Int := if y < x then y else x
theorem zget_le {L : List (List Nat)} {sl : Nat} (h : ZOk L sl) (z : Int) : (zget L z).length ≤ 256 := by
  unfold zget
  split
  · exact h.le _
  · simp
set_option maxRecDepth 100000 in
set_option maxHeartbeats 2000000 in
theorem zsame_any (h : ZQ w0 w b g s) (hd : s.Ld = s.L) : Calls Try.prog 72 #[.pointer (some ⟨b.Z, 0, none⟩), .pointer (some ⟨s.Rp, 0, none⟩)] w fun e w' => e = .returned (.bool true) ∧ Below w.heap.size w w' := by
  have ho : ZOk s.Ld g.slots := by rw [hd]; exact h.ok
  have hu : Uq s.Ld := by rw [hd]; exact h.uq
  have H := Lib.hid (And.intro h (And.intro ho (And.intro hu hd)))
  obtain ⟨n, hnn⟩ : ∃ n, s.Ld.length = n := ⟨_, rfl⟩
  have hn : n ≤ 64 := hnn ▸ ho.n2
  have HC : Hid (∀ wy, Below w.heap.size w wy → ∃ B c, wy.cell? ⟨s.Rp, 0, none⟩ = some (.int .i64 g.slots) ∧ wy.cell? ⟨s.Rp, 1, none⟩ = some (.slice (some ⟨B, 0, none⟩) n c)) := Lib.hid fun wy hb => by rw [← hnn]; exact dq_cells (H.out.1.below hb) H.out.2.1
  have hs2 : g.slots ≤ 256 := ho.s2
  obtain ⟨sl, hsl⟩ : ∃ sl : Int, (g.slots : Int) = sl := ⟨_, rfl⟩
  have hs1 : 0 ≤ sl := by omega
  have hs3 : sl ≤ 256 := by omega
  rw [hsl] at HC
  clear h ho hu hd hnn hsl hs2
  go_enter Try.func72, Try.ntmps72
  go_wp2
  go_loopw [5] (fun x wr => ∃ y : Int, -1 ≤ y ∧ y ≤ n + 1 ∧ x = .int .i64 y ∧ Hid (Below w.heap.size w wr)) (fun x _ => (n + 1 - intOf x).toNat)
  case atStart => exact ⟨-1, by omega, by omega, rfl, Lib.hid (Below.refl _ _)⟩
  case round =>
    obtain ⟨y, hy1, hy2, rfl, hb⟩ := hrel
    obtain ⟨B, c, c0, c1⟩ := HC.out wr hb.out
    by_cases hlt : y ≤ n
    · go_upto_region 4 with fail
      go_wp2_with fail
      refine (zq_list (H.out.1.below hb.out) y).mono ?_
      rintro e w1 ⟨r1, rfl, hr1, hb1⟩
      have HB1 := Lib.hid (And.intro (hb.out.trans (hb1.mono hb.out.size)) hr1)
      clear hr1 hb1
      go_wp2_with fail
      refine (dq_list (H.out.1.below HB1.out.1) H.out.2.1 y).mono ?_
      rintro e w1' ⟨r2, rfl, hr2, rfl⟩
      have HR2 := Lib.hid hr2
      clear hr2
      go_wp2_with fail
      have ha := zalike_any w1.heap.size r1 r2 _ _ w1 (HB1.out.2.ints (Nat.le_refl _)) (HR2.out.ints (Nat.le_refl _)) (by rw [ints_length]; exact Nat.le_trans (zget_le H.out.1.ok y) (by decide))
      rw [H.out.2.2.2, alk_self] at ha
      refine ha.mono ?_
      rintro e w2 ⟨rfl, hb2⟩
      have HB2 := Lib.hid (HB1.out.1.trans (hb2.mono HB1.out.1.size))
      clear hb2 ha
      go_wp2_with fail
      obtain ⟨m, hm⟩ : ∃ m, (zget s.L y).length = m := ⟨_, rfl⟩
      have hm256 : m ≤ 256 := by rw [← hm]; exact zget_le H.out.1.ok y
      have hl := zq_len (H.out.1.below HB2.out) y
      rw [hm] at hl
      refine hl.mono ?_
      rintro e w3 ⟨rfl, hb3⟩
      have HB3 := Lib.hid (HB2.out.trans (hb3.mono HB2.out.size))
      clear hb3 hl
      go_wp2_with fail
      refine (dq_list (H.out.1.below HB3.out) H.out.2.1 y).mono ?_
      rintro e w3' ⟨r4, rfl, hr4, rfl⟩
      obtain ⟨x4, c4, hv4⟩ := hr4.any
      rw [ints_length, H.out.2.2.2, hm] at hv4
      subst hv4
      have hB : ((m : Int) != (m : Int)) = false := by simp
      clear hr4 hm
      go_wp2
      go_roundw
      case rel => exact ⟨y + 1, by omega, by omega, by go_num, HB3⟩
      case measure => simp [intOf]; omega
    · obtain ⟨wa, rfl⟩ : ∃ wo : World, wo = wr := ⟨_, rfl⟩
      have HA := Lib.hid hb.out
      clear hb
      have himin : ∀ x y : Int, (if y < x then y else x) = zmin x y := fun _ _ => rfl
      have hz0 : 0 ≤ zmin sl 40 := by unfold zmin; split <;> omega
      have hz1 : zmin sl 40 ≤ 40 := by unfold zmin; split <;> omega
      go_wp2
      go_loopw [6] (fun x wr => ∃ y : Int, -1 ≤ y ∧ y ≤ zmin sl 40 + 1 ∧ x = .int .i64 y ∧ Hid (Below w.heap.size w wr)) (fun x _ => (zmin sl 40 + 1 - intOf x).toNat)
      case atStart => exact ⟨-1, by omega, by omega, rfl, HA⟩
      case round =>
        obtain ⟨y, hy1, hy2, rfl, hb⟩ := hrel
        obtain ⟨B, c, c0, c1⟩ := HC.out wr hb.out
        by_cases hlt : y ≤ zmin sl 40
        · go_upto_region 9 with fail
          go_wp2_with fail
          obtain ⟨r1, r2, r3, hr⟩ : ∃ r1 r2 r3, whE s.L y = (r1, r2, r3) := ⟨_, _, _, rfl⟩
          have hw := zq_where (H.out.1.below hb.out) y
          rw [hr] at hw
          refine hw.mono ?_
          rintro e w1 ⟨rfl, hb1⟩
          have HB1 := Lib.hid (hb.out.trans (hb1.mono hb.out.size))
          clear hb1 hw
          go_wp2_with fail
          have hw := dq_where (H.out.1.below HB1.out) H.out.2.1 H.out.2.2.1 y
          rw [H.out.2.2.2, hr] at hw
          refine hw.mono ?_
          rintro e w1' ⟨rfl, rfl⟩
          clear hw
          have hB1 : (r1 != r1) = false := by simp
          have hB2 : (r2 != r2) = false := by simp
          have hB3 : (r3 != r3) = false := by simp
          clear hr
          go_wp2
          go_roundw
          case rel => exact ⟨y + 1, by omega, by omega, by go_num, HB1⟩
          case measure => simp [intOf]; omega
        · have HB := hb
          clear hb
          go_wp2
          go_ret
          exact ⟨rfl, HB.out⟩
end
end
end Go.Proofs.Ytfkkkndigkchcaa
