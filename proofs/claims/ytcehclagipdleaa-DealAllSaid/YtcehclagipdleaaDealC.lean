/- The walk of deal.Perm. No condition. -/
import Derived.Test.YtcehclagipdleaaDealB
import Derived.Test.YtcehclagipdleaaRound
namespace Go.Proofs.Ytcehclagipdleaa
open Go.RowKit Go.Shelf
attribute [local go_sem] Oper.semAt_some

/-- One round. -/
def stp (ds : List Int) (s : List Int × Nat) (i : Nat) : List Int × Nat := if i = 0 then s else (swp s.1 i (kOf (ds.getD s.2 0) i), nu ds s.2)
theorem drop_head (ds : List Int) (u : Nat) : (ds.drop u).headD 0 = ds.getD u 0 := by
  rw [List.headD_eq_head?_getD, List.head?_drop, List.getD_eq_getElem?_getD]
theorem stp_dns (ds : List Int) : ∀ m l u, u ≤ ds.length → (dns (m + 1)).foldl (stp ds) (l, u) = (prm m l (ds.drop u), min (u + m) ds.length) := by
  intro m
  induction m with
  | zero => intro l u hu; simp [dns, stp, prm]; omega
  | succ m ih =>
    intro l u hu
    have hs : stp ds (l, u) (m + 1) = (swp l (m + 1) (kOf (ds.getD u 0) (m + 1)), nu ds u) := by simp [stp]
    rw [dns, List.foldl_cons, hs, prm, drop_head, List.tail_drop]
    by_cases h : u < ds.length
    · rw [show nu ds u = u + 1 from if_pos h, ih _ _ (by omega), show u + 1 + m = u + (m + 1) from by omega]
    · rw [show nu ds u = u from if_neg h, ih _ _ hu, List.drop_eq_nil_of_le (show ds.length ≤ u from by omega), List.drop_eq_nil_of_le (show ds.length ≤ u + 1 from by omega)]
      congr 1
      omega
/-- The list and how many are used, behind some rounds. -/
def stOf {n : Nat} (ds : List Int) (pre : List (BX n)) : List Int × Nat := (pls pre).foldl (stp ds) (ids n, 0)
theorem stOf_snoc {n : Nat} (ds : List Int) (pre : List (BX n)) (x : BX n) : stOf ds (pre ++ [x]) = stp ds (stOf ds pre) x.1.1 := by simp [stOf, pls]

/-- The cells ahead of the second loop. -/
def mixL (N k : Nat) : List Int := ids k ++ List.replicate (N - k) 0
theorem mixL_len (N k : Nat) (h : k ≤ N) : (mixL N k).length = N := by simp [mixL, ids_len]; omega
theorem mixL_set (N k : Nat) (h : k < N) : (mixL N k).set k (k : Int) = mixL N (k + 1) := by
  unfold mixL
  rw [show N - k = (N - (k + 1)) + 1 from by omega, List.replicate_succ, List.set_append_right (h := by rw [ids_len]; exact Nat.le_refl _), ids_len, Nat.sub_self, List.set_cons_zero, ids_succ]
  simp
theorem mixL_all (N : Nat) : mixL N N = ids N := by simp [mixL]

/-- How it lies in memory while Perm runs. -/
structure PS (w W : World) (v : Value) (N : Nat) (l : List Int) (u : Nat) : Prop where
  bd : Boxed W w.heap.size 22 v
  bu : Boxed W (w.heap.size + 1) 3 (.int .i64 u)
  bn : Boxed W (w.heap.size + 1 + 1) 33 (.func (.func 14) #[] #[.pointer (some ⟨w.heap.size + 1, 0, none⟩), .pointer (some ⟨w.heap.size, 0, none⟩)])
  row : Arr W (w.heap.size + 1 + 1 + 1) 3 (l.map (Value.int .i64))
  bl : Boxed W (w.heap.size + 1 + 1 + 1 + 1) 22 (.slice (some ⟨w.heap.size + 1 + 1 + 1, 0, none⟩) N N)
  len : l.length = N
  bel : Below w.heap.size w W
theorem Boxed.other {W : World} {B : Nat} {t : TypeId} {v u : Value} {a : Addr} (h : Boxed W B t v) (hne : B ≠ a.block) : Boxed (W.setCell a u) B t v := (heap_setCell_other W a B u hne).trans h
theorem Boxed.lat {W : World} {B : Nat} {t : TypeId} {v : Value} (h : Boxed W B t v) (o : Obj) : Boxed (W.alloc o) B t v := Boxed.alloc h o
section
variable {w W : World} {v : Value} {N : Nat} {l : List Int} {u : Nat}
theorem PS.drew (h : PS w W v N l u) : PS w W.drew v N l u := ⟨h.bd, h.bu, h.bn, h.row, h.bl, h.len, h.bel.drew⟩
theorem PS.alloc (h : PS w W v N l u) (o : Obj) : PS w (W.alloc o) v N l u := ⟨Boxed.alloc h.bd o, Boxed.alloc h.bu o, Boxed.alloc h.bn o, h.row.alloc o, Boxed.alloc h.bl o, h.len, h.bel.alloc h.bel.size o⟩
theorem PS.setL (h : PS w W v N l u) (j : Nat) (x : Int) : PS w (W.setCell ⟨w.heap.size + 1 + 1 + 1, j, none⟩ (.int .i64 x)) v N (l.set j x) u :=
  ⟨Boxed.other h.bd (by simp <;> omega), Boxed.other h.bu (by simp <;> omega), Boxed.other h.bn (by simp <;> omega), h.row.setInt j x, Boxed.other h.bl (by simp <;> omega), by rw [List.length_set]; exact h.len, h.bel.setCell (by show w.heap.size ≤ w.heap.size + 1 + 1 + 1; omega) _⟩
theorem PS.setU (h : PS w W v N l u) (x : Nat) : PS w (W.setCell ⟨w.heap.size + 1, 0, none⟩ (.int .i64 x)) v N l x :=
  ⟨Boxed.other h.bd (by simp <;> omega), Boxed.set _ h.bu, Boxed.other h.bn (by simp <;> omega), h.row.set_other _ _ (by simp <;> omega), Boxed.other h.bl (by simp <;> omega), h.len, h.bel.setCell (by simp <;> omega) _⟩
theorem PS.kept (h : PS w W v N l u) {n : Nat} (hn : w.heap.size ≤ n) {W' : World} {row : Option Nat} (hg : W.grownBy W' row) (hr : ∀ r, row = some r → n ≤ r ∧ ∃ o : Obj, W.heap[r]? = some o ∧ o.isCells = false) : PS w W' v N l u :=
  ⟨ownFrom_boxed (fun _ : Unit => _) () W W' row h.bd hg hr, ownFrom_boxed (fun _ : Unit => _) () W W' row h.bu hg hr, ownFrom_boxed (fun _ : Unit => _) () W W' row h.bn hg hr, ownFrom_arr (fun _ : Unit => _) () W W' row h.row hg hr, ownFrom_boxed (fun _ : Unit => _) () W W' row h.bl hg hr, h.len,
    h.bel.grown hg h.bel.size (fun k e => Nat.le_trans hn (hr k e).1)⟩
theorem PS.bp (h : PS w W v N l u) {Bs : Nat} (hb : Boxed W Bs 22 (.slice (some ⟨w.heap.size + 1 + 1 + 1, 0, none⟩) N N)) : bP Bs (w.heap.size + 1 + 1 + 1) N W := ⟨hb, l, h.len, h.row⟩
end
theorem ps_start (w : World) (v : Value) (N : Nat) : PS w (((((w.alloc (.cells #[v] 22)).alloc (.cells #[.int .i64 0] 3)).alloc (.cells #[.func (.func 14) #[] #[.pointer (some ⟨w.heap.size + 1, 0, none⟩), .pointer (some ⟨w.heap.size, 0, none⟩)]] 33)).alloc
    (.cells (List.replicate N (.int .i64 0)).toArray 3)).alloc (.cells #[.slice (some ⟨w.heap.size + 1 + 1 + 1, 0, none⟩) N N] 22)) v N (mixL N 0) 0 := by
  have b0 := Boxed.new w 22 v
  have b1 := Boxed.new (w.alloc (.cells #[v] 22)) 3 (.int .i64 0)
  have b2 := Boxed.new ((w.alloc (.cells #[v] 22)).alloc (.cells #[.int .i64 0] 3)) 33 (.func (.func 14) #[] #[.pointer (some ⟨w.heap.size + 1, 0, none⟩), .pointer (some ⟨w.heap.size, 0, none⟩)])
  have b3 := Arr.new (((w.alloc (.cells #[v] 22)).alloc (.cells #[.int .i64 0] 3)).alloc (.cells #[.func (.func 14) #[] #[.pointer (some ⟨w.heap.size + 1, 0, none⟩), .pointer (some ⟨w.heap.size, 0, none⟩)]] 33)) 3 (List.replicate N (.int .i64 0))
  have b4 := Boxed.new ((((w.alloc (.cells #[v] 22)).alloc (.cells #[.int .i64 0] 3)).alloc (.cells #[.func (.func 14) #[] #[.pointer (some ⟨w.heap.size + 1, 0, none⟩), .pointer (some ⟨w.heap.size, 0, none⟩)]] 33)).alloc (.cells (List.replicate N (.int .i64 0)).toArray 3)) 22 (.slice (some ⟨w.heap.size + 1 + 1 + 1, 0, none⟩) N N)
  simp only [World.size_alloc] at b1 b2 b3 b4
  exact ⟨Boxed.alloc (Boxed.alloc (Boxed.alloc (Boxed.alloc b0 _) _) _) _, Boxed.alloc (Boxed.alloc (Boxed.alloc b1 _) _) _, Boxed.alloc (Boxed.alloc b2 _) _, by simpa [mixL, ids] using b3.alloc _, b4, by simp [mixL, ids],
    ((((((Below.refl _ w).alloc (Nat.le_refl _) _).alloc (by simp) _).alloc (by simp; omega) _).alloc (by simp; omega) _).alloc (by simp; omega) _)⟩

theorem next_ps {w W : World} {v : Value} {N u : Nat} {l ds : List Int} {Bs : Nat} {bv : Value} (h : PS w W v N l u) (hI : Ints w w.heap.size v ds) (hl : ds.length ≤ 1000000) (hb : Boxed W Bs 22 bv) (hne : w.heap.size + 1 + 1 + 1 + 1 < Bs) :
    Calls Try.prog 14 #[.pointer (some ⟨w.heap.size + 1, 0, none⟩), .pointer (some ⟨w.heap.size, 0, none⟩)] W fun e w' => e = .returned (.int .i64 (ds.getD u 0)) ∧ PS w w' v N l (nu ds u) ∧ KeepsOthers W w' ∧ Boxed w' Bs 22 bv :=
  (next_any (w.heap.size + 1) w.heap.size w.heap.size u v ds W h.bu.cell h.bu.frozen h.bd.cell (hI.below h.bel (Nat.le_refl _)) (by omega) (by omega) hl).mono fun e w' ⟨he, hw⟩ => by
    subst hw
    exact ⟨he, h.setU _, KeepsOthers.setCell _ _ _, Boxed.other hb (by simp; omega)⟩
theorem left_k (d : Int) (i : Nat) (h2 : i ≤ 4096) (w : World) : Calls Try.prog 16 #[.int .i64 d, .int .i64 ((i : Int) + 1)] w fun e w' => e = .returned (.int .i64 (kOf d i : Nat)) ∧ w = w' := by
  rw [kOf_cast]
  exact left_any d _ (by omega) (by omega) w

/-- Between two rounds. -/
def permI (w : World) (v : Value) (N Bs : Nat) (ds : List Int) (pre : List (BX N)) (W : World) : Prop :=
  PS w W v N (stOf ds pre).1 (stOf ds pre).2 ∧ Boxed W Bs 22 (.slice (some ⟨w.heap.size + 1 + 1 + 1, 0, none⟩) N N)
theorem permI_own (w : World) (v : Value) (N Bs n : Nat) (ds : List Int) (hn : w.heap.size ≤ n) : OwnFrom n (permI w v N Bs ds) :=
  fun _ A B row hs hg hr => ⟨hs.1.kept hn hg hr, ownFrom_boxed (fun _ : Unit => _) () A B row hs.2 hg hr⟩

set_option maxRecDepth 100000 in
set_option maxHeartbeats 2000000 in
theorem perm_yes (N : Nat) (h1 : 1 ≤ N) (h2 : N ≤ 4096) (a : Option Addr) (n c : Nat) (ds : List Int) (w : World) (hI : Ints w w.heap.size (.slice a n c) ds) (hl : ds.length ≤ 1000000) :
    Calls Try.prog 8 #[.int .i64 (N : Int), .slice a n c] w fun e w' => ∃ B, e = .returned (.tuple #[.slice (some ⟨B, 0, none⟩) N N, .int .i64 (usedOf N ds : Nat)]) ∧ w.heap.size ≤ B ∧ Arr w' B 3 ((permOf N ds).map (Value.int .i64)) ∧ Below w.heap.size w w' := by
  have HI := Lib.hid hI
  have HL := Lib.hid hl
  have hmk := run_make_arr (P := Try.prog) 22 3 (.int .i64 0) 8 Try.underlying22 (by kernel_rfl) rfl N (by omega) (by omega)
  clear hI hl
  refine (callsIn_wide (n := 5)).1 ?_
  refine callsIn_of_wp_marks Try.func8 rfl trivial ?_ rfl
  simp only [Try.ntmps8, List.size_toArray, List.length_cons, List.length_nil, Nat.reduceAdd, Nat.reduceSub, Array.replicate_succ, Array.replicate_zero, List.push_toArray, List.append_toArray, List.nil_append, List.cons_append]
  gi_wp2
  clear hmk
  gi_loopw [23] (fun i wr => ∃ k : Nat, k ≤ N ∧ i = .int .i64 k ∧ PS w wr (.slice a n c) N (mixL N k) 0) (fun i _ => N - (intOf i).toNat)
  case atStart => exact ⟨0, Nat.zero_le _, rfl, ps_start w _ N⟩
  case round =>
    obtain ⟨k, hk, rfl, hps⟩ := hrel
    have c0 := hps.bl.cell
    have c1 := hps.row.frozen k
    by_cases hlt : k < N
    · have c2 : wr.cell? ⟨w.heap.size + 1 + 1 + 1, k, none⟩ = some (.int .i64 ((mixL N k).getD k 0)) := hps.row.int (by rw [hps.len]; exact hlt)
      gi_wp2
      go_roundw
      case rel => exact ⟨k + 1, by omega, by go_num, by rw [← mixL_set N k hlt]; exact hps.setL k _⟩
      case measure => simp [intOf]; omega
    · obtain rfl : N = k := by omega
      clear hlt
      gi_wp2
      refine ⟨trivial, ?_⟩
      refine (callsIn_wide.2 (back_any _ _ _ _)).mono ?_
      rintro e w' ⟨rfl, rfl⟩
      rw [mixL_all] at hps
      have hps0 := hps.alloc (.cells #[.slice (some ⟨w.heap.size + 1 + 1 + 1, 0, none⟩) N N] 22)
      have hbs := Boxed.new wr 22 (.slice (some ⟨w.heap.size + 1 + 1 + 1, 0, none⟩) N N)
      have hsz : w.heap.size + 1 + 1 + 1 + 1 < wr.heap.size := hps.bl.lt
      have hsz0 : w.heap.size + 1 + 1 + 1 + 1 < (wr.alloc (.cells #[.slice (some ⟨w.heap.size + 1 + 1 + 1, 0, none⟩) N N] 22)).heap.size := hps0.bl.lt
      clear c0 c1 hps hk
      obtain ⟨Bs, hBs⟩ : ∃ Bs, wr.heap.size = Bs := ⟨_, rfl⟩
      rw [hBs] at hbs hsz ⊢
      obtain ⟨W0, hW0⟩ : ∃ W0, wr.alloc (.cells #[.slice (some ⟨w.heap.size + 1 + 1 + 1, 0, none⟩) N N] 22) = W0 := ⟨_, rfl⟩
      simp only [hW0] at hbs hps0 hsz0 ⊢
      clear hW0 hBs
      gi_wp2
      refine wpIn_rangeFunc_ownG rfl (by omega) (gf := 17) (lb := #[.pointer (some ⟨Bs, 0, none⟩)]) rfl trivial (enters_of Try.func17 (by kernel_rfl) rfl)
        (back_stops Fence.wide 4 trivial rfl (by omega) Bs (w.heap.size + 1 + 1 + 1) N h2 W0 (hps0.bp hbs)) (fun h k => kpOf_t h k) (fun W l o o' => kpOf_b (bP_onCells _ _ _) W l o o') (Below.refl _ _) (fun _ => rfl)
        (permI w (.slice a n c) N Bs ds)
        (fun _ _ _ => False)
        (permI_own w (.slice a n c) N Bs W0.heap.size ds (by omega))
        (fun _ _ _ _ _ hs _ _ => hs)
        ⟨hps0, hbs⟩
        ?a1 ?assign ?body ?done ?stop
      case assign =>
        intro l x W K hK
        have HK := Lib.hid hK
        clear hK
        gi_wp2
        exact HK.out
      case body =>
        rintro l pre x W ⟨hs, hb⟩ _
        obtain ⟨⟨i, y⟩, hi⟩ := x
        have hi' : i < N := hi
        have hsn : stOf ds (pre ++ [⟨(i, y), hi⟩]) = stp ds (stOf ds pre) i := stOf_snoc ds pre _
        obtain ⟨L, hL⟩ : ∃ L, (stOf ds pre).1 = L := ⟨_, rfl⟩
        obtain ⟨u, hu⟩ : ∃ u, (stOf ds pre).2 = u := ⟨_, rfl⟩
        rw [hL, hu] at hs
        rw [show stOf ds pre = (L, u) from by rw [← hL, ← hu]] at hsn
        clear hL hu
        dsimp only
        by_cases h0 : i = 0
        · subst h0
          have HSN := Lib.hid hsn
          clear hsn
          gi_wp2
          refine ⟨KeepsFrom.refl _ _, fun h => h, ?_, hb⟩
          rw [HSN.out]
          exact hs
        · have h0' : 0 < i := by omega
          have h0B : decide ((0 : Int) < i) = true := by simp; omega
          have hst : stp ds (L, u) i = (swp L i (kOf (ds.getD u 0) i), nu ds u) := by unfold stp; rw [if_neg h0]
          rw [hst] at hsn
          have hkl := kOf_le (ds.getD u 0) i
          have HA := Lib.hid (next_ps hs HI.out HL.out hb (by omega))
          have HB := Lib.hid (left_k (ds.getD u 0) i (by omega))
          obtain ⟨k, hk⟩ : ∃ k, kOf (ds.getD u 0) i = k := ⟨_, rfl⟩
          rw [hk] at HB hkl hsn
          obtain ⟨d, hd⟩ : ∃ d, ds.getD u 0 = d := ⟨_, rfl⟩
          rw [hd] at HA HB
          have HSN := Lib.hid hsn
          have c0 := hs.bn.cell
          clear hk hd hst h0 hsn
          gi_wp2_with (first
            | (refine ⟨trivial, ?_⟩; gi_at_call 14; refine (CallsIn.inRound l (callsIn_wide.2 HA.out)).mono ?_; rintro e W1 ⟨rfl, hs1, hko, hb1⟩; have k0 := hs1.bl.cell)
            | (refine ⟨trivial, ?_⟩; gi_at_call 16; refine (CallsIn.inRound l (callsIn_wide.2 (HB.out _))).mono ?_; rintro e w' ⟨rfl, rfl⟩))
          have hk' : k < N := by omega
          have ci : W1.cell? ⟨w.heap.size + 1 + 1 + 1, i, none⟩ = some (.int .i64 (L.getD i 0)) := hs1.row.int (by rw [hs1.len]; exact hi')
          have ck : W1.cell? ⟨w.heap.size + 1 + 1 + 1, k, none⟩ = some (.int .i64 (L.getD k 0)) := hs1.row.int (by rw [hs1.len]; exact hk')
          have fi := hs1.row.frozen i
          have fk := hs1.row.frozen k
          have hs2 := hs1.setL i (L.getD k 0)
          have ck2 : (W1.setCell ⟨w.heap.size + 1 + 1 + 1, i, none⟩ (.int .i64 (L.getD k 0))).cell? ⟨w.heap.size + 1 + 1 + 1, k, none⟩ = some (.int .i64 ((L.set i (L.getD k 0)).getD k 0)) := hs2.row.int (by rw [hs2.len]; exact hk')
          have hs3 := hs2.setL k (L.getD i 0)
          have hs4 : PS w ((W1.setCell ⟨w.heap.size + 1 + 1 + 1, i, none⟩ (.int .i64 (L.getD k 0))).setCell ⟨w.heap.size + 1 + 1 + 1, k, none⟩ (.int .i64 (L.getD i 0))) (.slice a n c) N (swp L i k) (nu ds u) := hs3
          obtain ⟨x, hx⟩ : ∃ x, L.getD i 0 = x := ⟨_, rfl⟩
          obtain ⟨z, hz⟩ : ∃ z, L.getD k 0 = z := ⟨_, rfl⟩
          rw [hx, hz] at hs4
          rw [hx] at ci
          rw [hz] at ck ck2
          clear hs3 hs2 hx hz
          have b0 : (0 : Int) ≤ i := by omega
          have b1 : (i : Int) < N := by omega
          have b2 : (0 : Int) ≤ k := by omega
          have b3 : (k : Int) < N := by omega
          have HS4 := Lib.hid hs4
          clear hs4 hkl h0B c0 HA HB hk'
          have hS1 : ((W1.setCell ⟨w.heap.size + 1 + 1 + 1, i, none⟩ (.int .i64 z)).drew).cell? ⟨w.heap.size + 1 + 1 + 1 + 1, 0, none⟩ = some (.slice (some ⟨w.heap.size + 1 + 1 + 1, 0, none⟩) N N) := by
            exact (Boxed.other hs1.bl (by simp)).cell
          have hS2 : (((W1.setCell ⟨w.heap.size + 1 + 1 + 1, i, none⟩ (.int .i64 z)).setCell ⟨w.heap.size + 1 + 1 + 1, k, none⟩ (.int .i64 x)).drew).cell? ⟨w.heap.size + 1 + 1 + 1 + 1, 0, none⟩ = some (.slice (some ⟨w.heap.size + 1 + 1 + 1, 0, none⟩) N N) := by
            exact (Boxed.other (Boxed.other hs1.bl (by simp)) (by simp)).cell
          have hS0 : W1.drew.cell? ⟨w.heap.size + 1 + 1 + 1 + 1, 0, none⟩ = some (.slice (some ⟨w.heap.size + 1 + 1 + 1, 0, none⟩) N N) := k0
          refine wpIn_round_held (S := fun w' => w'.cell? ⟨w.heap.size + 1 + 1 + 1 + 1, 0, none⟩ = some (.slice (some ⟨w.heap.size + 1 + 1 + 1, 0, none⟩) N N)) (by kernel_rfl) (by kernel_rfl) ?_
          refine wpAnyH_take (i := 0) (v := .slice (some ⟨w.heap.size + 1 + 1 + 1, 0, none⟩) N N) rfl (by kernel_rfl) (by kernel_rfl) (by kernel_rfl) (fun _ _ _ h => h) (Or.inl ⟨by rfl, ?_⟩) hS0 ?_
          · intro wx hSw
            go_simp
          refine wpAnyH_take (i := 1) (v := .int .i64 i) rfl (by kernel_rfl) (by kernel_rfl) (by kernel_rfl) (fun _ _ _ h => h) (Or.inl ⟨by rfl, ?_⟩) hS0 ?_
          · intro wx hSw
            go_simp
          refine wpAnyH_take (i := 2) (v := .slice (some ⟨w.heap.size + 1 + 1 + 1, 0, none⟩) N N) rfl (by kernel_rfl) (by kernel_rfl) (by kernel_rfl) (fun _ _ _ h => h) (Or.inl ⟨by rfl, ?_⟩) hS0 ?_
          · intro wx hSw
            go_simp
          refine wpAnyH_take (i := 3) (v := .int .i64 k) rfl (by kernel_rfl) (by kernel_rfl) (by kernel_rfl) (fun _ _ _ h => h) (Or.inl ⟨by rfl, ?_⟩) hS0 ?_
          · intro wx hSw
            go_simp
          refine wpAnyH_take (i := 4) (v := .slice (some ⟨w.heap.size + 1 + 1 + 1, 0, none⟩) N N) rfl (by kernel_rfl) (by kernel_rfl) (by kernel_rfl) (fun _ _ _ h => h) (Or.inl ⟨by rfl, ?_⟩) hS0 ?_
          · intro wx hSw
            go_simp
          refine wpAnyH_take (i := 5) (v := .int .i64 k) rfl (by kernel_rfl) (by kernel_rfl) (by kernel_rfl) (fun _ _ _ h => h) (Or.inl ⟨by rfl, ?_⟩) hS0 ?_
          · intro wx hSw
            go_simp
          refine wpAnyH_take (i := 6) (v := .pointer (some ⟨w.heap.size + 1 + 1 + 1, k, none⟩)) rfl (by kernel_rfl) (by kernel_rfl) (by kernel_rfl) (fun _ _ _ h => h) (Or.inl ⟨by rfl, ?_⟩) hS0 ?_
          · intro wx hSw
            go_simp
          refine wpAnyH_take (i := 8) (v := .slice (some ⟨w.heap.size + 1 + 1 + 1, 0, none⟩) N N) rfl (by kernel_rfl) (by kernel_rfl) (by kernel_rfl) (fun _ _ _ h => h) (Or.inl ⟨by rfl, ?_⟩) hS0 ?_
          · intro wx hSw
            go_simp
          refine wpAnyH_take (i := 9) (v := .int .i64 i) rfl (by kernel_rfl) (by kernel_rfl) (by kernel_rfl) (fun _ _ _ h => h) (Or.inl ⟨by rfl, ?_⟩) hS0 ?_
          · intro wx hSw
            go_simp
          refine wpAnyH_take (i := 10) (v := .pointer (some ⟨w.heap.size + 1 + 1 + 1, i, none⟩)) rfl (by kernel_rfl) (by kernel_rfl) (by kernel_rfl) (fun _ _ _ h => h) (Or.inl ⟨by rfl, ?_⟩) hS0 ?_
          · intro wx hSw
            go_simp
          refine wpAnyH_all (rs := [7, 11]) (by kernel_rfl) (by simp) ?_
          try simp only [Act.put]
          try simp only [List.setIfInBounds_toArray]
          try simp only [List.set_cons_zero]
          try simp only [List.set_cons_succ]
          simp only [List.mem_cons, List.not_mem_nil, or_false, forall_eq_or_imp, forall_eq]
          refine ⟨?_, ?_⟩
          · refine heldOp rfl (by rfl) (fun K' hK' => ?_)
            go_simp
            refine hK' _ _ ⟨hS0, ?_⟩
            clear hK' K'
            refine wpAnyH_all (rs := [11]) (by kernel_rfl) (by simp) ?_
            try simp only [Act.put]
            try simp only [List.setIfInBounds_toArray]
            try simp only [List.set_cons_zero]
            try simp only [List.set_cons_succ]
            simp only [List.mem_cons, List.not_mem_nil, or_false, forall_eq]
            refine heldOp rfl (by rfl) (fun K' hK' => ?_)
            go_simp
            refine hK' _ _ ⟨hS0, ?_⟩
            clear hK' K'
            refine wpAnyH_take (i := 12) (v := .pointer (some ⟨w.heap.size + 1 + 1 + 1, i, none⟩)) rfl (by kernel_rfl) (by kernel_rfl) (by kernel_rfl) (fun _ _ _ h => h) (Or.inl ⟨by rfl, ?_⟩) hS0 ?_
            · intro wx hSw
              go_simp
            refine wpAnyH_all (rs := [13]) (by kernel_rfl) (by simp) ?_
            try simp only [Act.put]
            try simp only [List.setIfInBounds_toArray]
            try simp only [List.set_cons_zero]
            try simp only [List.set_cons_succ]
            simp only [List.mem_cons, List.not_mem_nil, or_false, forall_eq]
            refine heldOp rfl (by rfl) (fun K' hK' => ?_)
            go_simp
            refine hK' _ _ ⟨hS1, ?_⟩
            clear hK' K'
            refine wpAnyH_take (i := 14) (v := .pointer (some ⟨w.heap.size + 1 + 1 + 1, k, none⟩)) rfl (by kernel_rfl) (by kernel_rfl) (by kernel_rfl) (fun _ _ _ h => h) (Or.inl ⟨by rfl, ?_⟩) hS1 ?_
            · intro wx hSw
              go_simp
            refine wpAnyH_all (rs := [15]) (by kernel_rfl) (by simp) ?_
            try simp only [Act.put]
            try simp only [List.setIfInBounds_toArray]
            try simp only [List.set_cons_zero]
            try simp only [List.set_cons_succ]
            simp only [List.mem_cons, List.not_mem_nil, or_false, forall_eq]
            refine heldOp rfl (by rfl) (fun K' hK' => ?_)
            go_simp
            refine hK' _ _ ⟨hS2, ?_⟩
            clear hK' K'
            refine wpAnyH_done (by kernel_rfl) ?_ _
            show Exit.inBlock 3 _ Exit.normal _ _
            gi_wp2
            refine ⟨?_, fun _ => ?_, ?_, ?_⟩
            · exact (hko.trans (((KeepsOthers.setCell _ _ _).trans (KeepsOthers.setCell _ _ _)).trans (KeepsOthers.drew _))).from _
            · exact HS4.out.drew.bp (Boxed.other (Boxed.other hb1 (by simp; omega)) (by simp; omega))
            · rw [HSN.out]; exact HS4.out.drew
            · exact Boxed.other (Boxed.other hb1 (by simp; omega)) (by simp; omega)
          · refine heldOp rfl (by rfl) (fun K' hK' => ?_)
            go_simp
            refine hK' _ _ ⟨hS0, ?_⟩
            clear hK' K'
            refine wpAnyH_all (rs := [7]) (by kernel_rfl) (by simp) ?_
            try simp only [Act.put]
            try simp only [List.setIfInBounds_toArray]
            try simp only [List.set_cons_zero]
            try simp only [List.set_cons_succ]
            simp only [List.mem_cons, List.not_mem_nil, or_false, forall_eq]
            refine heldOp rfl (by rfl) (fun K' hK' => ?_)
            go_simp
            refine hK' _ _ ⟨hS0, ?_⟩
            clear hK' K'
            refine wpAnyH_take (i := 12) (v := .pointer (some ⟨w.heap.size + 1 + 1 + 1, i, none⟩)) rfl (by kernel_rfl) (by kernel_rfl) (by kernel_rfl) (fun _ _ _ h => h) (Or.inl ⟨by rfl, ?_⟩) hS0 ?_
            · intro wx hSw
              go_simp
            refine wpAnyH_all (rs := [13]) (by kernel_rfl) (by simp) ?_
            try simp only [Act.put]
            try simp only [List.setIfInBounds_toArray]
            try simp only [List.set_cons_zero]
            try simp only [List.set_cons_succ]
            simp only [List.mem_cons, List.not_mem_nil, or_false, forall_eq]
            refine heldOp rfl (by rfl) (fun K' hK' => ?_)
            go_simp
            refine hK' _ _ ⟨hS1, ?_⟩
            clear hK' K'
            refine wpAnyH_take (i := 14) (v := .pointer (some ⟨w.heap.size + 1 + 1 + 1, k, none⟩)) rfl (by kernel_rfl) (by kernel_rfl) (by kernel_rfl) (fun _ _ _ h => h) (Or.inl ⟨by rfl, ?_⟩) hS1 ?_
            · intro wx hSw
              go_simp
            refine wpAnyH_all (rs := [15]) (by kernel_rfl) (by simp) ?_
            try simp only [Act.put]
            try simp only [List.setIfInBounds_toArray]
            try simp only [List.set_cons_zero]
            try simp only [List.set_cons_succ]
            simp only [List.mem_cons, List.not_mem_nil, or_false, forall_eq]
            refine heldOp rfl (by rfl) (fun K' hK' => ?_)
            go_simp
            refine hK' _ _ ⟨hS2, ?_⟩
            clear hK' K'
            refine wpAnyH_done (by kernel_rfl) ?_ _
            show Exit.inBlock 3 _ Exit.normal _ _
            gi_wp2
            refine ⟨?_, fun _ => ?_, ?_, ?_⟩
            · exact (hko.trans (((KeepsOthers.setCell _ _ _).trans (KeepsOthers.setCell _ _ _)).trans (KeepsOthers.drew _))).from _
            · exact HS4.out.drew.bp (Boxed.other (Boxed.other hb1 (by simp; omega)) (by simp; omega))
            · rw [HSN.out]; exact HS4.out.drew
            · exact Boxed.other (Boxed.other hb1 (by simp; omega)) (by simp; omega)
      case done =>
        rintro D ys W hD hys ⟨hs, hb⟩ hK
        have hst : stOf ds ys = (permOf N ds, usedOf N ds) := by
          obtain ⟨m, rfl⟩ : ∃ m, N = m + 1 := ⟨N - 1, by omega⟩
          unfold stOf
          rw [hys, stp_dns ds m _ 0 (Nat.zero_le _)]
          have hc : (1 : Int) ≤ ((m + 1 : Nat) : Int) ∧ ((m + 1 : Nat) : Int) ≤ 4096 := by omega
          unfold permOf usedOf
          rw [if_pos hc, if_pos hc]
          simp
        rw [hst] at hs
        clear hst hys hb
        have k0 := hs.bl.cell
        have k1 := hs.bu.cell
        obtain ⟨u, hu⟩ : ∃ u, usedOf N ds = u := ⟨_, rfl⟩
        simp only [hu] at k1 ⊢
        have HU := Lib.hid hu
        clear hu
        gi_wp2
        gi_big_region
        all_goals gi_wp2
        all_goals
          refine ⟨by simp, .inl ⟨_, _, rfl, run_takeDeferred hK, ?_⟩⟩
          refine ⟨.tuple #[.slice (some ⟨w.heap.size + 1 + 1 + 1, 0, none⟩) N N, .int .i64 u], by simp [results, Try.f8, go_sem], w.heap.size + 1 + 1 + 1, by rw [HU.out], by omega, Arr.putObj hK rfl hs.row, ?_⟩
          exact hs.bel.drew.trans (belowK_b (w := w) (Nat.le_refl _) W.drew D _ _ (by omega) hK rfl rfl)
      case stop =>
        rintro D c pre W _ _ h _
        exact h.elim
theorem perm_no (n : Int) (h : ¬ (1 ≤ n ∧ n ≤ 4096)) (a : Option Addr) (k c : Nat) (w : World) :
    Calls Try.prog 8 #[.int .i64 n, .slice a k c] w fun e w' => e = .returned (.tuple #[.slice none 0 0, .int .i64 0]) ∧ Below w.heap.size w w' := by
  by_cases h1 : n < 1
  · refine (callsIn_wide (n := 5)).1 ?_
    refine callsIn_of_wp_marks Try.func8 rfl trivial ?_ rfl
    simp only [Try.ntmps8, List.size_toArray, List.length_cons, List.length_nil, Nat.reduceAdd, Nat.reduceSub, Array.replicate_succ, Array.replicate_zero, List.push_toArray, List.append_toArray, List.nil_append, List.cons_append]
    gi_wp2
    exact ⟨.tuple #[.slice none 0 0, .int .i64 0], by simp [results, Try.f8, go_sem], rfl, (Below.refl _ _).alloc (Nat.le_refl _) _⟩
  · have h2 : 4096 < n := by omega
    have h1' : 1 ≤ n := by omega
    clear h h1
    refine (callsIn_wide (n := 5)).1 ?_
    refine callsIn_of_wp_marks Try.func8 rfl trivial ?_ rfl
    simp only [Try.ntmps8, List.size_toArray, List.length_cons, List.length_nil, Nat.reduceAdd, Nat.reduceSub, Array.replicate_succ, Array.replicate_zero, List.push_toArray, List.append_toArray, List.nil_append, List.cons_append]
    gi_wp2
    exact ⟨.tuple #[.slice none 0 0, .int .i64 0], by simp [results, Try.f8, go_sem], rfl, (Below.refl _ _).alloc (Nat.le_refl _) _⟩
end Go.Proofs.Ytcehclagipdleaa
