/- Whoever steps over a row of numbers by their first bytes alone comes to where each begins, and reads there just the numbers from that one on. No condition. -/
import Derived.Test.YtjfdmbbhpabgnaaWireWorks
import Derived.Test.YtjfdmbbhpabgnaaOpenN
import Derived.ChangeMaps5
namespace Go.Proofs.Ytjfdmbbhpabgnaa
open Go.ChangeMaps Go.ChangeShapes Go.WideShapes Go.ChangeAt Go.RowKit

theorem ext_list (s : ByteArray) (a b : Nat) : (s.extract a b).data.toList = (s.data.toList.take b).drop a := by simp [List.drop_take]
theorem ext_eq {s t : ByteArray} (h : s.data.toList = t.data.toList) : s = t := by
  apply ByteArray.ext
  exact Array.toList_inj.1 h
theorem ext_str (x y : List UInt8) : (str (x ++ y)).extract x.length (x ++ y).length = str y := by
  apply ext_eq
  rw [ext_list, List.take_of_length_le (by simp [str])]
  simp [str]
theorem lft_app3 (x y : List UInt8) : lft (str (x ++ y)) x.length = y := by simp [lft, str]
/-- Rows of numbers, one behind the other. -/
def rows (l : List Nat) : List UInt8 := l.flatMap row
theorem rows_snoc (l : List Nat) (n : Nat) : rows (l ++ [n]) = rows l ++ row n := by simp [rows]
theorem rows_app (l m : List Nat) : rows (l ++ m) = rows l ++ rows m := by simp [rows]
theorem rows_len (l : List Nat) : (rows l).length ≤ 9 * l.length := by
  induction l with
  | nil => simp [rows]
  | cons n l ih =>
    have := row_len n
    have := srt_le n
    have e : rows (n :: l) = row n ++ rows l := rfl
    rw [e, List.length_append, List.length_cons]
    omega
def ats (L : List Nat) (i : Nat) : List Int := (List.range i).map (fun j => (((rows (L.take j)).length : Nat) : Int))
theorem ats_succ (L : List Nat) (i : Nat) : ats L (i + 1) = ats L i ++ [(((rows (L.take i)).length : Nat) : Int)] := by simp [ats, List.range_succ]
theorem ats_len (L : List Nat) (i : Nat) : (ats L i).length = i := by simp [ats]
theorem ats_get (L : List Nat) (i j : Nat) (h : j < i) : (ats L i).getD j 0 = (((rows (L.take j)).length : Nat) : Int) := by
  simp [ats, List.getD_eq_getElem?_getD, h]
theorem take_snoc' (L : List Nat) (i : Nat) (h : i < L.length) : L.take (i + 1) = L.take i ++ [L.getD i 0] := by
  rw [List.take_succ_eq_append_getElem h]; simp [List.getD_eq_getElem?_getD, h]
theorem rows_split (L : List Nat) (i : Nat) (h : i < L.length) : rows L = rows (L.take i) ++ (row (L.getD i 0) ++ rows (L.drop (i + 1))) := by
  rw [← List.append_assoc, ← rows_snoc, ← take_snoc' L i h, ← rows_app, List.take_append_drop]
theorem infoI : (Try.prog.info? 3).map (fun i => (i.zero, i.size, i.bytes)) = some (some (.int .i64 0), 1, 8) := by kernel_rfl
set_option maxHeartbeats 2000000 in
set_option maxRecDepth 100000 in
theorem wireSkips_cut (a : Option Addr) (len cap m : Nat) (F : Nat → Int) (from_ : Nat) (w : World) (_hlc : len ≤ cap) (_hmx : cap ≤ 9223372036854775807) (hF : Nums w w.heap.size .u64 (.slice a len cap) len F) (hfr : from_ ≤ 255) (hm : m ≤ 60) (hml : m ≤ len) (hmin : min (len : Int) 60 = (m : Int)) :
    Calls Try.prog 5 #[.slice a len cap, .int .u8 from_] w fun e w' => e = .returned (.bool true) ∧ Below w.heap.size w w' := by
  obtain ⟨i0, hi, hz0, hz1, hz2⟩ := info_parts infoI
  obtain ⟨L, hLd⟩ : ∃ L : List Nat, (List.range m).map (fun i => (F i).toNat) = L := ⟨_, rfl⟩
  have hLl : L.length = m := by rw [← hLd]; simp
  have hcell : ∀ i, i < m → ∃ b o, a = some ⟨b, o, none⟩ ∧ b < w.heap.size ∧ w.cell? ⟨b, o + i, none⟩ = some (.int .u64 ((L.getD i 0 : Nat) : Int)) ∧ L.getD i 0 < 2 ^ 64 := by
    intro i hi
    obtain ⟨a1, cp, e0, _, _, h0 | ⟨b, o, e1, e2, e3⟩⟩ := hF
    · omega
    · cases e0
      have := wf_u64a (e3 i (by omega)).2
      have hg : ((L.getD i 0 : Nat) : Int) = F i := by rw [← hLd]; simp [List.getD_eq_getElem?_getD, hi]; omega
      exact ⟨b, o, e1, e2, by rw [hg]; exact (e3 i (by omega)).1, by omega⟩
  have hrl : ∀ i, (rows (L.take i)).length ≤ 540 := fun i => by have := rows_len (L.take i); rw [List.length_take] at this; omega
  have HC := Lib.hid (And.intro hcell (And.intro hLl hrl))
  clear hcell hLl hLd hrl hF
  go_enter Try.func5, Try.ntmps5
  go_wp2
  go_loopw [7, 5, 6] (fun v x y wr => ∃ i : Nat, i ≤ m ∧ v = .int .i64 i ∧ x = .string (str (rows (L.take i))) ∧ IRow wr w.heap.size y (ats L i) ∧ Below w.heap.size w wr) (fun v _ _ _ => 60 - (intOf v).toNat)
  case atStart => exact ⟨0, by omega, rfl, rfl, IRow.nil _ _, Below.refl _ _⟩
  case round =>
    obtain ⟨i, him, rfl, rfl, hown, hbel⟩ := hrel
    have hrl := HC.out.2.2 i
    by_cases hlt : i < m
    · obtain ⟨b, o, rfl, hb, hc, hn⟩ := HC.out.1 i hlt
      have hts := take_snoc' L i (by rw [HC.out.2.1]; exact hlt)
      have hrs := rows_snoc (L.take i) (L.getD i 0)
      have has := ats_succ L i
      rw [← hts] at hrs
      have hal := ats_len L i
      obtain ⟨n, hne⟩ : ∃ n, L.getD i 0 = n := ⟨_, rfl⟩
      obtain ⟨r, hre⟩ : ∃ r, rows (L.take i) = r := ⟨_, rfl⟩
      obtain ⟨q, hqe⟩ : ∃ q, ats L i = q := ⟨_, rfl⟩
      rw [hne] at hc hn hrs
      rw [hre] at hrl hrs has ⊢
      rw [hqe] at hown has hal
      have HS := Lib.hid (And.intro hrs (And.intro has hal))
      have hal' : q.length ≤ 60 := by omega
      have HQ : Hid (w.cell? ⟨b, o + i, none⟩ = some (.int .u64 (n : Int)) ∧ b < w.heap.size) := ⟨hc, hb⟩
      clear hts hrs has hal hne hre hqe hc hb
      have hbs := hbel.size
      go_wp2_with (at_builtin; refine wpList_append_own _ rfl _ _ 41 rfl w.heap.size 3 i0 (.int .i64 0) 1 8 Try.underlying41 hi hz0 hz1 hz2 rfl (by decide) _ _ _ rfl (hown.alloc _) ⟨wr.heap.size, 0, none⟩ 1 1 [.int .i64 r.length] rfl rfl (cell_one_new _ _ _) (by simp [Value.oneCell']) (by unfold maxLen; omega) (by omega) (by have := hbel.size; simp; omega) ?_; intro v' w1 hown' hgrow hfr'; have hb1 := IRow.appBel hbel hown hgrow; have c1 := (hb1.cell (p := ⟨b, o + i, none⟩) HQ.out.2).trans HQ.out.1; have H1 := Lib.hid (And.intro (IRow.app hown') hb1); clear hown' hgrow hfr' hb1)
      refine (put_any (str r) n _ (by rw [str_size]; omega) hn).mono ?_
      rintro e w2 ⟨rfl, hb2⟩
      have H2 : Hid (IRow w2 w.heap.size v' (q ++ [(r.length : Int)]) ∧ Below w.heap.size w w2) := ⟨H1.out.1.below hb2, fb_call H1.out.2 hb2⟩
      rw [str_app, ← HS.out.1]
      clear hb2 c1 H1
      go_wp2
      go_roundw
      case rel => exact ⟨i + 1, by omega, by go_num, rfl, by rw [HS.out.2.1]; exact H2.out.1, H2.out.2⟩
      case measure => simp [intOf]; omega
    · obtain rfl : i = m := by omega
      have hLt : L.take i = L := List.take_of_length_le (by rw [HC.out.2.1]; exact Nat.le_refl _)
      rw [hLt] at hrl ⊢
      have HI := Lib.hid (And.intro hown (And.intro hbel hLt))
      clear hlt hown hbel him hLt
      go_wp2
      have hsz : (str (rows L)).size = (rows L).length := str_size _
      by_cases hi0 : i = 0
      · subst hi0
        have hL0 : rows L = [] := by rw [List.eq_nil_of_length_eq_zero HC.out.2.1]; rfl
        rw [hL0] at hsz hrl ⊢
        refine wp_loop_rounds 1 ?_
        rw [rounds_succ]
        go_wp2_with fail
        refine (works_any _).mono ?_
        rintro e w9 ⟨rfl, hb9⟩
        have HB9 := Lib.hid hb9
        clear hb9
        go_wp2
        go_ret
        exact ⟨rfl, fb_call HI.out.2.1 HB9.out⟩
      · obtain ⟨g, cp, he⟩ := HI.out.1.form (by rw [ats_len]; omega)
        rw [ats_len] at he
        subst he
        go_loop [9, 8] (fun v x => ∃ j : Nat, j ≤ i ∧ v = .int .i64 j ∧ x = .int .i64 (((rows (L.take j)).length : Nat) : Int)) (fun v _ => 60 - (intOf v).toNat)
        case atStart => exact ⟨0, by omega, rfl, rfl⟩
        case round =>
          obtain ⟨j, hj, rfl, rfl⟩ := hrel
          have hrj := HC.out.2.2 j
          by_cases hlt : j < i
          · have hc := HI.out.1.cell (j := j) (by rw [ats_len]; exact hlt)
            rw [ats_get L i j hlt] at hc
            have hn : L.getD j 0 < 2 ^ 64 := by obtain ⟨_, _, _, _, _, h⟩ := HC.out.1 j hlt; exact h
            have hts := take_snoc' L j (by rw [HC.out.2.1]; exact hlt)
            have hrs := rows_snoc (L.take j) (L.getD j 0)
            rw [← hts] at hrs
            have hsp := rows_split L j (by rw [HC.out.2.1]; exact hlt)
            obtain ⟨f, hrow, hlead⟩ := lead_row _ hn
            have hrl' := row_len (L.getD j 0)
            have hs8 := srt_le (L.getD j 0)
            obtain ⟨n, hne⟩ : ∃ n, L.getD j 0 = n := ⟨_, rfl⟩
            rw [hne] at hrs hsp hrow hlead hrl' hs8
            obtain ⟨r, hre⟩ : ∃ r, rows (L.take j) = r := ⟨_, rfl⟩
            rw [hre] at hrs hsp hc hrj ⊢
            have hlt2 : r.length < (str (rows L)).size := by rw [str_size, hsp, hrow]; simp
            have hfb : (str (rows L))[r.length]'hlt2 = f := by
              have : ∀ (R : List UInt8) (h : R = r ++ (row n ++ rows (L.drop (j + 1)))) (h2 : r.length < (str R).size), (str R)[r.length]'h2 = f := by
                intro R h h2
                subst h
                show (r ++ (row n ++ rows (L.drop (j + 1)))).toArray[r.length]'_ = f
                simp [hrow]
              exact this _ hsp hlt2
            have hlt3 : r.length < (rows L).length := by rw [← str_size]; exact hlt2
            have hl8 := lead_le f.toNat
            have hf5 : f.toNat ≤ 255 := Nat.le_of_lt_succ f.toNat_lt
            have HS := Lib.hid (And.intro hrs (And.intro hlead hrl'))
            clear hts hrs hsp hrow hlead hrl' hne hre hn
            go_wp2_with (go_at_call 27; refine (behind_any f.toNat _ (by omega)).mono ?_; rintro e w' ⟨rfl, rfl⟩)
            go_round
            case rel => exact ⟨j + 1, by omega, by go_num, by rw [HS.out.1, HS.out.2.1, List.length_append, HS.out.2.2]; simp; omega⟩
            case measure => simp [intOf]; omega
          · obtain rfl : j = i := by omega
            have hLt := HI.out.2.2
            rw [hLt] at hrj ⊢
            clear hlt hj hLt
            have hmod : (from_ : Int) % (j : Int) = ((from_ % j : Nat) : Int) := by simp
            have hlt := Nat.mod_lt from_ (show 0 < j by omega)
            obtain ⟨fi, hfi⟩ : ∃ fi, from_ % j = fi := ⟨_, rfl⟩
            rw [hfi] at hmod hlt
            have hc := HI.out.1.cell (j := fi) (by rw [ats_len]; exact hlt)
            rw [ats_get L j fi hlt] at hc
            have hrf := HC.out.2.2 fi
            have hle : (rows (L.take fi)).length ≤ (rows L).length := by
              rw [← List.take_append_drop fi L, rows_app, List.length_append]
              rw [List.take_append_drop]
              omega
            have hext : (str (rows L)).extract (rows (L.take fi)).length (rows L).length = str (rows (L.drop fi)) := by
              have := ext_str (rows (L.take fi)) (rows (L.drop fi))
              rw [← rows_app, List.take_append_drop] at this
              exact this
            clear hfi
            obtain ⟨rf, hrfe⟩ : ∃ rf, (rows (L.take fi)).length = rf := ⟨_, rfl⟩
            rw [hrfe] at hc hrf hle hext
            have HX := Lib.hid (And.intro hext hmod)
            clear hrfe hext
            obtain ⟨D, hD⟩ : ∃ D, L.drop fi = D := ⟨_, rfl⟩
            have hDl : D.length = j - fi := by rw [← hD, List.length_drop, HC.out.2.1]
            have hDg : ∀ p, D.getD p 0 = L.getD (fi + p) 0 := fun p => by rw [← hD]; simp [List.getD_eq_getElem?_getD]
            have hDr : (rows D).length ≤ 540 := by have := rows_len D; omega
            have HD0 := Lib.hid (And.intro hD (And.intro hDl hDg))
            clear hD hDl hDg
            go_wp2_with fail
            rw [HX.out.1, HD0.out.1]
            have hA := HI.out.2.1.size
            refine (newReader_any (str (rows D)) _).mono ?_
            rintro e w4 ⟨rfl, hw⟩
            have H4 : Hid (RdA w4 wr.heap.size (str (rows D)) 0 false ∧ Below w.heap.size w w4) := by rw [← hw]; exact ⟨Arr.new wr 57 _, fb_alloc HI.out.2.1 _⟩
            clear hw hmod
            obtain ⟨A, hAe⟩ : ∃ A, wr.heap.size = A := ⟨_, rfl⟩
            rw [hAe] at H4 hA ⊢
            clear hAe
            go_wp2
            go_loopw [12] (fun v wq => ∃ z : Nat, fi ≤ z ∧ z ≤ j ∧ v = .int .i64 z ∧ RdA wq A (str (rows D)) (rows (D.take (z - fi))).length false ∧ Below w.heap.size w wq) (fun v _ => 61 - (intOf v).toNat)
            case atStart => exact ⟨fi, Nat.le_refl _, by omega, rfl, by rw [Nat.sub_self]; exact H4.out.1, H4.out.2⟩
            case round =>
              obtain ⟨z, hz1, hz2, rfl, hra, hbq⟩ := hrel
              obtain ⟨p, hpe⟩ : ∃ p, z - fi = p := ⟨_, rfl⟩
              rw [hpe] at hra
              clear H4
              by_cases hlt2 : z < j
              · obtain ⟨b, o, rfl, hb, hcl, hn⟩ := HC.out.1 z hlt2
                rw [show L.getD z 0 = D.getD p 0 from by rw [HD0.out.2.2 p, show fi + p = z by omega]] at hcl hn
                have hpl : p < D.length := by rw [HD0.out.2.1]; omega
                have hts := take_snoc' D p hpl
                have hrs := rows_snoc (D.take p) (D.getD p 0)
                rw [← hts] at hrs
                have hsp := rows_split D p hpl
                obtain ⟨n, hne⟩ : ∃ n, D.getD p 0 = n := ⟨_, rfl⟩
                rw [hne] at hcl hn hrs hsp
                obtain ⟨r, hre⟩ : ∃ r, rows (D.take p) = r := ⟨_, rfl⟩
                rw [hre] at hrs hsp hra
                have hrd : rd (lft (str (rows D)) r.length) = some (n, (row n).length) := by
                  rw [show lft (str (rows D)) r.length = row n ++ rows (D.drop (p + 1)) from by rw [hsp, lft_app3]]
                  exact rd_row n _ hn
                have hrl2 : r.length ≤ (rows D).length := by rw [hsp, List.length_append]; omega
                have HQ : Hid (∀ wq : World, Below w.heap.size w wq → wq.cell? ⟨b, o + z, none⟩ = some (.int .u64 (n : Int))) := fun wq hb' => (hb'.cell (p := ⟨b, o + z, none⟩) hb).trans hcl
                have HRD := Lib.hid (And.intro hrd (And.intro hrs hre))
                have HD : Hid (RdA wr.drew A (str (rows D)) r.length false ∧ Below w.heap.size w wr.drew) := ⟨hra, hbq.drew⟩
                have HP : Hid (z + 1 - fi = p + 1) := show z + 1 - fi = p + 1 by omega
                clear hts hrs hsp hne hre hcl hra hbq hrd hpl hpe
                go_wp2_with fail
                go_region_held3 (fun wy => wy.cell? ⟨b, o + z, none⟩ = some (.int .u64 (n : Int))) (exact HQ.out _ HD.out.2)
                  ((go_at_call 17; refine (num_at HD.out.1 (by rw [str_size]; omega) (by rw [str_size]; omega) HRD.out.1).mono ?_; rintro e wN ⟨rfl, r1, m1⟩; have HD1 := Lib.hid (And.intro r1 (bel_moved HD.out.2 m1 hA)); clear r1 m1 HD; have HD := HD1; clear HD1))
                go_wp2
                go_roundw
                case rel => exact ⟨z + 1, by omega, by omega, by go_num, by rw [HP.out, HRD.out.2.1, List.length_append]; exact HD.out.1, HD.out.2⟩
                case measure => simp [intOf]; omega
              · obtain rfl : z = j := by omega
                have hend : (rows (D.take p)).length = (str (rows D)).size := by
                  rw [List.take_of_length_le (by rw [HD0.out.2.1]; omega), str_size]
                rw [hend] at hra
                have HE := Lib.hid (And.intro hra hbq)
                clear hra hbq hend hpe hlt2
                go_wp2_with fail
                refine (end_yes HE.out.1).mono ?_
                rintro e w8 ⟨rfl, nq, rfl⟩
                go_wp2_with fail
                refine (works_any _).mono ?_
                rintro e w9 ⟨rfl, hb9⟩
                have HB9 := Lib.hid hb9
                clear hb9
                go_wp2
                go_ret
                exact ⟨rfl, fb_call (fb_drewN HE.out.2 _) HB9.out⟩
theorem wireSkips_walk (a : Option Addr) (len cap : Nat) (F : Nat → Int) (from_ : Nat) (w : World) (hlc : len ≤ cap) (hmx : cap ≤ 9223372036854775807) (hF : Nums w w.heap.size .u64 (.slice a len cap) len F) (hfr : from_ ≤ 255) :
    Calls Try.prog 5 #[.slice a len cap, .int .u8 from_] w fun e w' => e = .returned (.bool true) ∧ Below w.heap.size w w' :=
  wireSkips_cut a len cap (min len 60) F from_ w hlc hmx hF hfr (by omega) (by omega) (by omega)

theorem wireSkips_own : ownKnob Try.prog.godebug = none := by kernel_rfl
theorem wireSkips_laidOut : laidOutB Try.prog = true := by kernel_rfl

set_option maxHeartbeats 1000000 in
set_option maxRecDepth 100000 in
theorem wireSkips_lifted (os : Os) (started : os.Started) (H : Type) (enc : TypeId × Value → H) :
    ReturnsInHanded {} Try.checked os 5 .any (Rows.wireSkipsSpec.pre6 enc Try.prog Try.f5 Rows.wireSkipsRow.domain false) (Rows.wireSkipsSpec.post enc Try.prog Try.f5 false true false false) := by
  refine returnsInHanded_of_change (C := Try.checked) wireSkips_own started (by kernel_rfl) Try.func5
    (ChangeSpec.witness6 (enc := enc) (C := Try.checked) false ⟨#[], #[.slice none 0 0, .int .u8 0], []⟩ 8 (by kernel_rfl) (by kernel_rfl) (by kernel_rfl) (by kernel_rfl)) ?_
  intro W base args ds gs before hval0 hW hcnd _
  have hval : ∀ (j : Nat) t v, Try.f5.params[j]? = some t → args[j]? = some v → Value.okWide Try.prog W .any base t v := hval0
  have hW' := hW
  obtain ⟨p, q, hA0, hV, rfl, hfz, hnd⟩ := hW
  have hA : DataW.TrodAll enc Try.prog W 0 (fun _ => true) true Try.f5.params.toList args.toList ds p := hA0
  rw [Try.params5] at hA hval
  obtain ⟨v0, vs0, d0, ds0, p0, q0, hargs, rfl, rfl, h0, r0⟩ := trodAll_cons hA
  obtain ⟨v1, vs1, d1, ds1, p1, q1, rfl, rfl, rfl, h1, r1⟩ := trodAll_cons r0
  obtain ⟨rfl, rfl, rfl⟩ := trodAll_nil r1
  obtain rfl : args = #[v0, v1] := by cases args; simp_all
  obtain ⟨rfl, rfl⟩ := trodVars_none hV
  have k0 := h0
  have lt0 : ∀ x ∈ p0, x.block < W.heap.size := by obtain ⟨m, hm⟩ := k0; exact DataW.trod_lt m _ _ _ hm
  obtain ⟨aa, len, cap, F, rfl, hlc, hmx, hF⟩ := open_nums Try.underlying40 Try.underlying22 (by kernel_rfl) (hval 0 40 v0 rfl rfl) h0
  unfold maxLen at hmx
  have k1 := h1
  have lt1 : ∀ x ∈ p1, x.block < W.heap.size := by obtain ⟨m, hm⟩ := k1; exact DataW.trod_lt m _ _ _ hm
  obtain ⟨xx, rfl, ex1, ex2, wfx⟩ := open_int Try.underlying5 (hval 1 5 v1 rfl rfl) h1
  have bx := wf_u8a wfx
  obtain ⟨x, rfl⟩ := Int.eq_ofNat_of_zero_le bx.1
  clear hA0 hval0
  refine (wireSkips_walk aa len cap F x W hlc (by omega) hF (by omega)).mono fun e W' ⟨he, bel⟩ => ?_
  subst he
  exact ⟨_, rfl, _, _, _, [], _, [], hW', trodAll_mk1 (shut_bool Try.underlying4 _), (trodAll_cons_mk (Below.trod wireSkips_laidOut (by kernel_rfl) (of_decide_eq_true (by kernel_rfl)) k0 bel lt0) (trodAll_cons_mk (Below.trod wireSkips_laidOut (by kernel_rfl) (of_decide_eq_true (by kernel_rfl)) k1 bel lt1) trodAll_mk0)), rfl, bel.frame _, fun h => by cases h⟩

theorem wireSkips_over : Rows.wireSkipsRow.holds Try.pinned (OpenSpec.ofChange Rows.wireSkipsSpec) :=
  OpenClaim.holds_of_wide 5 Try.f5 rfl rfl rfl rfl rfl rfl rfl ⟨rfl, rfl, rfl, rfl, rfl⟩ rfl rfl rfl rfl rfl (by kernel_rfl) Try.func5 (by kernel_rfl)
    (of_decide_eq_true (by kernel_rfl)) (by unfold Func.isWrapper; first | (rw [if_pos (by decide +kernel)]; kernel_rfl) | (rw [if_neg (by decide +kernel)]; exact ⟨rfl, rfl⟩))
    (fun os started H enc _ => wireSkips_lifted os started H enc)

/-- The statement. -/
theorem wireSkips_holds : Rows.WireSkipsSaid := wireSkips_over
#print axioms wireSkips_holds
end Go.Proofs.Ytjfdmbbhpabgnaa
