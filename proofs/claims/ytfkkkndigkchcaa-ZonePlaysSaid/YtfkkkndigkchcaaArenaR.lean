/- The document's arena in memory; its At, Slot, Len, Make, Free. No condition. -/
import Derived.Test.YtfkkkndigkchcaaArenaS
import Derived.Test.YtfkkkndigkchcaaAppI
namespace Go.Proofs.Ytfkkkndigkchcaa
open Go.RowKit
attribute [local irreducible] Calls

def natI (l : List Nat) : List Int := l.map fun n : Nat => (n : Int)
theorem natI_length (l : List Nat) : (natI l).length = l.length := by simp [natI]
theorem natI_get (l : List Nat) (j : Nat) : (natI l).getD j 0 = (l.getD j 0 : Nat) := by
  unfold natI
  by_cases h : j < l.length
  · simp [List.getD_eq_getElem?_getD, h]
  · simp [List.getD_eq_getElem?_getD, List.getElem?_eq_none (Nat.not_lt.1 h)]
theorem natI_set (l : List Nat) (j x : Nat) : natI (l.set j x) = (natI l).set j (x : Int) := by unfold natI; rw [List.map_set]
theorem own_formc {w : World} {base : Nat} {e : TypeId} {size n : Nat} {v : Value} {xs : List Value} (h : w.ownsRow base e size v n xs) (hn : 0 < n) : ∃ g cap, v = .slice (some ⟨g, 0, none⟩) n cap ∧ n ≤ cap := by
  rcases h.2 with ⟨_, h0⟩ | ⟨g, cap, _, hv, _, _, hc, _⟩
  · omega
  · exact ⟨g, cap, hv, hc⟩
theorem own_mono' {W : World} {b b' : Nat} {e : TypeId} {size n : Nat} {v : Value} {xs : List Value} (h : W.ownsRow b' e size v n xs) (hb : b ≤ b') : W.ownsRow b e size v n xs := by
  refine ⟨h.1, ?_⟩
  rcases h.2 with c | ⟨g, cap, cur, e, hg, r⟩
  · exact .inl c
  · exact .inr ⟨g, cap, cur, e, Nat.le_trans hb hg, r⟩
/-- A row of truths of one's own. -/
def BRow (w : World) (base : Nat) (v : Value) (l : List Bool) : Prop := w.ownsRow base 4 1 v l.length (l.map Value.bool)
theorem BRow.cell {w : World} {base g n cap : Nat} {l : List Bool} (h : BRow w base (.slice (some ⟨g, 0, none⟩) n cap) l) {j : Nat} (hj : j < l.length) : w.cell? ⟨g, j, none⟩ = some (.bool (l.getD j false)) := by
  have e : n = l.length := by
    rcases h.2 with ⟨hv, _⟩ | ⟨_, _, _, hv, _⟩
    · injection hv with h1 _ _; cases h1
    · injection hv
  subst e
  rw [World.ownsRow.cellAt h j (by omega)]
  simp [hj, List.getD_eq_getElem?_getD]
theorem BRow.frozen {w : World} {base g n cap : Nat} {l : List Bool} (h : BRow w base (.slice (some ⟨g, 0, none⟩) n cap) l) (j : Nat) : w.frozen? ⟨g, j, none⟩ = false := by
  have e : n = l.length := by
    rcases h.2 with ⟨hv, _⟩ | ⟨_, _, _, hv, _⟩
    · injection hv with h1 _ _; cases h1
    · injection hv
  subst e
  exact World.ownsRow.frozenAt h j
theorem BRow.set {w : World} {base g n cap : Nat} {l : List Bool} (h : BRow w base (.slice (some ⟨g, 0, none⟩) n cap) l) (j : Nat) (x : Bool) : BRow (w.setCell ⟨g, j, none⟩ (.bool x)) base (.slice (some ⟨g, 0, none⟩) n cap) (l.set j x) := by
  have e : n = l.length := by
    rcases h.2 with ⟨hv, _⟩ | ⟨_, _, _, hv, _⟩
    · injection hv with h1 _ _; cases h1
    · injection hv
  subst e
  have := (World.ownsRow.stored h j (.bool x)).1
  unfold BRow
  rw [List.map_set, List.length_set]
  exact this
theorem BRow.below {w w' : World} {base : Nat} {v : Value} {l : List Bool} (h : BRow w base v l) (hb : Below w.heap.size w w') : BRow w' base v l := by
  refine ⟨h.1, ?_⟩
  rcases h.2 with hn | ⟨g, cap, cur, hv, hbs, hgg, rest⟩
  · exact .inl hn
  · exact .inr ⟨g, cap, cur, hv, hbs, (hb.block g (Array.getElem?_eq_some_iff.1 hgg).1).trans hgg, rest⟩
theorem BRow.other {w : World} {base : Nat} {v : Value} {l : List Bool} (h : BRow w base v l) (a : Addr) (u : Value) (ha : v.ownBlock ≠ some a.block) : BRow (w.setCell a u) base v l := ownsRow_setCell_other h ha u
theorem row_ne {w : World} {b b' : Nat} {e e' : TypeId} {s s' n n' : Nat} {v v' : Value} {xs xs' : List Value} (h : w.ownsRow b e s v n xs) (h' : w.ownsRow b' e' s' v' n' xs') (hne : e ≠ e') {k : Nat} (hk : v.ownBlock = some k) : v'.ownBlock ≠ some k := by
  intro hk'
  rcases h.2 with ⟨rfl, _⟩ | ⟨g, cap, cur, rfl, _, hg, _⟩
  · cases hk
  · rcases h'.2 with ⟨rfl, _⟩ | ⟨g', cap', cur', rfl, _, hg', _⟩
    · cases hk'
    · injection hk with e1
      injection hk' with e2
      subst e1
      have e2' : g' = g := e2
      rw [e2', hg] at hg'
      injection hg' with h1
      injection h1 with _ h2
      exact hne h2
theorem row_ne_arr {w : World} {b : Nat} {e t : TypeId} {s n A : Nat} {v : Value} {xs vs : List Value} (h : w.ownsRow b e s v n xs) (h' : Arr w A t vs) (hne : e ≠ t) : v.ownBlock ≠ some A := by
  intro hk
  rcases h.2 with ⟨rfl, _⟩ | ⟨g, cap, cur, rfl, _, hg, _⟩
  · cases hk
  · injection hk with e1
    have e1' : g = A := e1
    rw [e1', show w.heap[A]? = _ from h'] at hg
    injection hg with h1
    injection h1 with _ h2
    exact hne h2.symm
structure DA (w : World) (base A : Nat) (rv gv uv : Value) (M : AM) : Prop where
  a : Arr w A 114 [rv, gv, uv]
  r : IRow w base rv (natI M.row)
  g : IRow w base gv (natI M.g)
  u : BRow w base uv M.u
  ne : ∀ k, rv.ownBlock = some k → gv.ownBlock ≠ some k
  hb : base ≤ A
def daB (A : Nat) (rv gv uv : Value) (j : Nat) : Prop := j = A ∨ rv.ownBlock = some j ∨ gv.ownBlock = some j ∨ uv.ownBlock = some j
/-- An arena of n slots with small numbers. -/
structure AOk (M : AM) (n : Nat) : Prop where
  n1 : 1 ≤ n
  n2 : n ≤ 256
  g : M.g.length = n
  u : M.u.length = n
  r : M.row.length ≤ n
  rs : ∀ s ∈ M.row, s < n
  gs : ∀ s, M.g.getD s 0 ≤ 1000000
section
variable {w w' : World} {base A n : Nat} {rv gv uv : Value} {M : AM}
theorem DA.lt (h : DA w base A rv gv uv M) {j : Nat} (hj : daB A rv gv uv j) : base ≤ j ∧ j < w.heap.size := by
  rcases hj with rfl | hj | hj | hj
  · exact ⟨h.hb, h.a.lt⟩
  · exact World.ownsRow.lt h.r j hj
  · exact World.ownsRow.lt h.g j hj
  · exact World.ownsRow.lt h.u j hj
theorem DA.moved {S : Nat → Prop} (h : DA w base A rv gv uv M) (hm : Moved w w' S) (hn : ∀ j, daB A rv gv uv j → ¬ S j) : DA w' base A rv gv uv M :=
  have hk : ∀ j, daB A rv gv uv j → w'.heap[j]? = w.heap[j]? := fun j hj => hm.block j (h.lt hj).2 (hn j hj)
  ⟨(hk A (.inl rfl)).trans h.a, ownsRow_block h.r fun k e => hk k (.inr (.inl e)), ownsRow_block h.g fun k e => hk k (.inr (.inr (.inl e))), ownsRow_block h.u fun k e => hk k (.inr (.inr (.inr e))), h.ne, h.hb⟩
theorem DA.below (h : DA w base A rv gv uv M) (hb : Below w.heap.size w w') : DA w' base A rv gv uv M := h.moved (Moved.of_below hb (fun _ => False)) fun _ _ h => h
theorem DA.gf (h : DA w base A rv gv uv M) (ho : AOk M n) : ∃ G cG, gv = .slice (some ⟨G, 0, none⟩) n cG := by
  have h1 := h.g
  unfold IRow at h1
  rw [natI_length, ho.g] at h1
  exact own_form h1 (by have := ho.n1; omega)
theorem DA.uf (h : DA w base A rv gv uv M) (ho : AOk M n) : ∃ U cU, uv = .slice (some ⟨U, 0, none⟩) n cU := by
  have h1 := h.u
  unfold BRow at h1
  rw [ho.u] at h1
  exact own_form h1 (by have := ho.n1; omega)
theorem dat_any (h : DA w base A rv gv uv M) (ho : AOk M n) (z : Int) : Calls Try.prog 56 #[.pointer (some ⟨A, 0, none⟩), .int .i64 z] w fun e w' => e = .returned (.int .i64 (M.at z)) ∧ w = w' := by
  obtain ⟨G, cG, rfl⟩ := h.gf ho
  obtain ⟨U, cU, rfl⟩ := h.uf ho
  have c1 : w.cell? ⟨A, 1, none⟩ = some (.slice (some ⟨G, 0, none⟩) n cG) := h.a.cell 1
  have c2 : w.cell? ⟨A, 2, none⟩ = some (.slice (some ⟨U, 0, none⟩) n cU) := h.a.cell 2
  have hn := ho.n2
  by_cases hz : 0 ≤ z ∧ z < n
  · obtain ⟨s, rfl⟩ := Int.eq_ofNat_of_zero_le hz.1
    have hs : s < n := by omega
    have cu : w.cell? ⟨U, s, none⟩ = some (.bool (M.u.getD s false)) := h.u.cell (by rw [ho.u]; exact hs)
    have cg : w.cell? ⟨G, s, none⟩ = some (.int .i64 (M.g.getD s 0 : Nat)) := by rw [← natI_get]; exact h.g.cell (by rw [natI_length, ho.g]; exact hs)
    have hg := ho.gs s
    have hat : M.at (s : Int) = if M.u.getD s false = true then 256 * ((M.g.getD s 0 : Nat) : Int) + s else 0 := by
      unfold AM.at
      rw [Int.toNat_natCast]
      by_cases e : M.u.getD s false = true
      · rw [if_pos ⟨by omega, by rw [ho.g]; omega, e⟩, if_pos e]
      · rw [if_neg (fun h => e h.2.2), if_neg e]
    rw [hat]
    have s0 : (0 : Int) ≤ s := by omega
    have s1 : (s : Int) < n := by omega
    have s2 : s ≤ 256 := by omega
    generalize M.g.getD s 0 = y at cg hg ⊢
    generalize M.u.getD s false = bb at cu ⊢
    clear h hat hz ho
    cases bb with
    | true =>
      rw [if_pos rfl]
      go_enter Try.func56, Try.ntmps56
      go_wp2
      go_ret
      exact ⟨rfl, rfl⟩
    | false =>
      rw [if_neg (by simp)]
      go_enter Try.func56, Try.ntmps56
      go_wp2
      go_ret
      exact ⟨rfl, rfl⟩
  · have hat : M.at z = 0 := if_neg fun hh => hz ⟨hh.1, by have := hh.2.1; rw [ho.g] at this; exact this⟩
    rw [hat]
    clear h hat ho
    by_cases h0 : z < 0
    · clear hz
      go_enter Try.func56, Try.ntmps56
      go_wp2
      go_ret
      exact ⟨rfl, rfl⟩
    · have h1 : (n : Int) ≤ z := by omega
      clear hz
      go_enter Try.func56, Try.ntmps56
      go_wp2
      go_ret
      exact ⟨rfl, rfl⟩
theorem dslot_any (h : DA w base A rv gv uv M) (ho : AOk M n) (z : Int) (hz63 : z ≤ 9223372036854775807) : Calls Try.prog 53 #[.pointer (some ⟨A, 0, none⟩), .int .i64 z] w fun e w' => e = .returned (.int .i64 (M.slot z)) ∧ w = w' := by
  have ha := Lib.hid (dat_any h ho (z % 256))
  unfold AM.slot
  clear h
  by_cases h0 : z ≤ 0
  · rw [if_pos (.inl h0)]
    go_enter Try.func53, Try.ntmps53
    go_wp2
    go_ret
    exact ⟨rfl, rfl⟩
  · have h1 : 0 < z := by omega
    by_cases he : M.at (z % 256) = z
    · rw [if_neg (fun hh => hh.elim h0 (fun h => h he))]
      rw [he] at ha
      clear he h0
      go_enter Try.func53, Try.ntmps53
      go_wp2_with (go_at_call 56; refine ha.out.mono ?_; rintro e w' ⟨rfl, rfl⟩)
      go_ret
      exact ⟨rfl, rfl⟩
    · rw [if_pos (.inr he)]
      obtain ⟨y, hy⟩ : ∃ y, M.at (z % 256) = y := ⟨_, rfl⟩
      rw [hy] at ha he
      have hB : (y != z) = true := by simp [he]
      clear h0 hy
      go_enter Try.func53, Try.ntmps53
      go_wp2_with (go_at_call 56; refine ha.out.mono ?_; rintro e w' ⟨rfl, rfl⟩)
      go_ret
      exact ⟨rfl, rfl⟩
theorem dlen_any (h : DA w base A rv gv uv M) (ho : AOk M n) : Calls Try.prog 58 #[.pointer (some ⟨A, 0, none⟩)] w fun e w' => e = .returned (.int .i64 ((n : Int) - M.row.length)) ∧ Below w.heap.size w w' := by
  obtain ⟨G, cG, rfl⟩ := h.gf ho
  obtain ⟨x, c, hrv⟩ := h.r.any
  rw [natI_length] at hrv
  subst hrv
  have c0 : w.cell? ⟨A, 0, none⟩ = some (.slice x M.row.length c) := h.a.cell 0
  have c1 : w.cell? ⟨A, 1, none⟩ = some (.slice (some ⟨G, 0, none⟩) n cG) := h.a.cell 1
  have hn := ho.n2
  have hr := ho.r
  generalize M.row.length = m at c0 hr ⊢
  clear h ho
  go_enter Try.func58, Try.ntmps58
  go_wp2
  go_quiet (fail)
  go_wp2
  go_ret
  exact ⟨rfl, bel_drewN (Below.refl _ _) _⟩
theorem DA.setRow {v : Value} {r : List Nat} (h : DA w base A rv gv uv M) (hv : IRow w base v (natI r)) (hne : ∀ k, v.ownBlock = some k → gv.ownBlock ≠ some k) : DA (w.setCell ⟨A, 0, none⟩ v) base A v gv uv { M with row := r } :=
  ⟨h.a.set 0 v, hv.other _ _ (row_ne_arr hv h.a (by decide)), h.g.other _ _ (row_ne_arr h.g h.a (by decide)), h.u.other _ _ (row_ne_arr h.u h.a (by decide)), hne, h.hb⟩
theorem DA.setG {G cG : Nat} (h : DA w base A rv (.slice (some ⟨G, 0, none⟩) n cG) uv M) (s x : Nat) : DA (w.setCell ⟨G, s, none⟩ (.int .i64 (x : Int))) base A rv (.slice (some ⟨G, 0, none⟩) n cG) uv { M with g := M.g.set s x } := by
  have hAG : A ≠ G := fun e => row_ne_arr h.g h.a (by decide) (by rw [e]; rfl)
  refine ⟨h.a.set_other _ _ hAG, h.r.other _ _ (fun e => h.ne G e rfl), ?_, h.u.other _ _ (fun e => row_ne h.u h.g (by decide) e rfl), h.ne, h.hb⟩
  show IRow _ base _ (natI (M.g.set s x))
  rw [natI_set]; exact h.g.set s x
theorem DA.setU {U cU : Nat} (h : DA w base A rv gv (.slice (some ⟨U, 0, none⟩) n cU) M) (s : Nat) (x : Bool) : DA (w.setCell ⟨U, s, none⟩ (.bool x)) base A rv gv (.slice (some ⟨U, 0, none⟩) n cU) { M with u := M.u.set s x } := by
  have hAU : A ≠ U := fun e => row_ne_arr h.u h.a (by decide) (by rw [e]; rfl)
  exact ⟨h.a.set_other _ _ hAU, h.r.other _ _ (fun e => row_ne h.r h.u (by decide) e rfl), h.g.other _ _ (fun e => row_ne h.g h.u (by decide) e rfl), h.u.set s x, h.ne, h.hb⟩
theorem AOk.make (ho : AOk M n) {s : Nat} {r : List Nat} (hr : M.row = s :: r) (hg : M.g.getD s 0 < 1000000) : AOk (M.make s r) n := by
  have hrl := ho.r
  rw [hr] at hrl
  refine ⟨ho.n1, ho.n2, by show (M.g.set _ _).length = n; rw [List.length_set]; exact ho.g, by show (M.u.set _ _).length = n; rw [List.length_set]; exact ho.u, by show r.length ≤ n; simp at hrl; omega, fun t ht => ho.rs t (by rw [hr]; exact List.mem_cons_of_mem _ ht), fun t => ?_⟩
  show (M.g.set s (M.g.getD s 0 + 1)).getD t 0 ≤ _
  rw [getD_set_nat _ _ _ _ (by rw [ho.g]; exact ho.rs s (by rw [hr]; simp))]
  split
  · omega
  · exact ho.gs t
theorem dmake_full (h : DA w base A rv gv uv M) (hr : M.row = []) : Calls Try.prog 51 #[.pointer (some ⟨A, 0, none⟩)] w fun e w' => e = .returned (.tuple #[.int .i64 0, .int .i64 6]) ∧ w = w' := by
  obtain ⟨x, c, hrv⟩ := h.r.any
  rw [hr] at hrv
  have hrv' : rv = .slice x 0 c := hrv
  subst hrv'
  have c0 : w.cell? ⟨A, 0, none⟩ = some (.slice x 0 c) := h.a.cell 0
  clear h hr hrv
  go_enter Try.func51, Try.ntmps51
  go_wp2
  go_ret2
  exact ⟨rfl, rfl⟩
set_option maxRecDepth 100000 in
set_option maxHeartbeats 2000000 in
theorem dmake_any (h : DA w base A rv gv uv M) (ho : AOk M n) (s : Nat) (r : List Nat) (hr : M.row = s :: r) (hgs : M.g.getD s 0 < 1000000) :
    Calls Try.prog 51 #[.pointer (some ⟨A, 0, none⟩)] w fun e w' => e = .returned (.tuple #[.int .i64 (256 * ((M.g.getD s 0 + 1 : Nat) : Int) + s), .int .i64 0]) ∧ ∃ rv', DA w' base A rv' gv uv (M.make s r) ∧ Moved w w' (daB A rv gv uv) ∧ ∀ j, daB A rv' gv uv j → daB A rv gv uv j ∨ w.heap.size ≤ j := by
  obtain ⟨G, cG, rfl⟩ := h.gf ho
  obtain ⟨U, cU, rfl⟩ := h.uf ho
  have hrr := h.r
  unfold IRow at hrr
  rw [natI_length, hr] at hrr
  obtain ⟨Rb, cR, rfl, hcap⟩ := own_formc hrr (by simp)
  have hsn : s < n := ho.rs s (by rw [hr]; simp)
  have hl : (s :: r).length = r.length + 1 := by simp
  rw [hl] at h hcap ⊢
  have hrl := ho.r
  rw [hr, hl] at hrl
  have hn := ho.n2
  have hrow : IRow w base (.slice (some ⟨Rb, 0, none⟩) (r.length + 1) cR) (natI (s :: r)) := by rw [← hr]; exact h.r
  have c0 : w.cell? ⟨A, 0, none⟩ = some (.slice (some ⟨Rb, 0, none⟩) (r.length + 1) cR) := h.a.cell 0
  have cr : w.cell? ⟨Rb, 0, none⟩ = some (.int .i64 s) := by
    have := hrow.cell (j := 0) (by rw [natI_length]; simp)
    rw [natI_get] at this; exact this
  have hS : SInts w (if cR = 1 then some ⟨Rb, 0, none⟩ else some ⟨Rb, 1, none⟩) (r.length + 1 - 1) (natI r) := by
    have h1 := (SInts.own hrow).drop (k := 1)
    rw [Nat.zero_add] at h1
    have h2 : (natI (s :: r)).drop 1 = natI r := rfl
    rw [h2] at h1
    split
    · have hz : r = [] := List.eq_nil_of_length_eq_zero (by omega)
      subst hz
      exact SInts.nil _ _
    · exact h1
  obtain ⟨m, hm⟩ : ∃ m, r.length = m := ⟨_, rfl⟩
  obtain ⟨lr, hlr⟩ : ∃ lr, natI r = lr := ⟨_, rfl⟩
  have hlm : lr.length = m := by rw [← hlr, natI_length]; exact hm
  rw [hlr] at hS
  rw [hm] at h hcap hrl c0 hS hrow ⊢
  have hm1 : m + 1 - 1 = m := by omega
  rw [hm1] at hS
  have HX := Lib.hid (And.intro h (And.intro ho (And.intro hr (And.intro hgs (And.intro hm (And.intro hlr hlm))))))
  obtain ⟨y, hy⟩ : ∃ y, M.g.getD s 0 = y := ⟨_, rfl⟩
  rw [hy]
  have HY := Lib.hid hy
  have HS := Lib.hid hS
  have hbz := h.lt (.inl rfl)
  have hbz1 := hbz.1
  have hcap1 : (1 : Int) ≤ cR := by omega
  have hcap2 : 1 ≤ cR := by omega
  clear h ho hr hgs hm hrr hl hrow hS hbz hm1 hlr hlm hy
  go_enter Try.func51, Try.ntmps51
  go_upto_region 6 with (at_builtin; refine wpList_append_ints rfl _ _ rfl rfl (IRow.nil w w.heap.size) rfl HS.out (by rw [HX.out.2.2.2.2.2.2]; simp; omega) (Nat.le_refl _) ?_; intro v5 w5 hr5 hg5 hf5; have hb5 := (Below.refl _ w).grown hg5 (Nat.le_refl _) (fun k e => by cases e); have cA : w5.cell? ⟨A, 0, none⟩ = some (.slice (some ⟨Rb, 0, none⟩) (m + 1) cR) := (HX.out.1.below hb5).a.cell 0; have fA := (HX.out.1.below hb5).a.frozen 0; rw [List.nil_append] at hr5; obtain ⟨x5, c5, rfl⟩ := hr5.any; have HR5 := Lib.hid (And.intro hr5 hb5); clear hr5 hg5 hf5 hb5)
  generalize (if cR = 1 then _ else _) = ad
  have hnew : ∀ k, (Value.slice x5 lr.length c5).ownBlock = some k → w.heap.size ≤ k := fun k hk => (World.ownsRow.lt HR5.out.1 k hk).1
  have D6 := (HX.out.1.below HR5.out.2).setRow (r := r) (v := .slice x5 lr.length c5) (by rw [HX.out.2.2.2.2.2.1]; exact own_mono' HR5.out.1 (by have := HX.out.1.lt (.inl rfl); omega)) (fun k hk e => by have := hnew k hk; have := (World.ownsRow.lt HX.out.1.g k e).2; omega)
  have M6 : Moved w (w5.setCell ⟨A, 0, none⟩ (.slice x5 lr.length c5)) (daB A (.slice (some ⟨Rb, 0, none⟩) (m + 1) cR) (.slice (some ⟨G, 0, none⟩) n cG) (.slice (some ⟨U, 0, none⟩) n cU)) :=
    (Moved.of_below HR5.out.2 _).trans (Moved.of_set w5 ⟨A, 0, none⟩ _ (S := fun j => j = A) rfl) fun k hk => .inl (.inl hk)
  have c1 : (w5.setCell ⟨A, 0, none⟩ (.slice x5 lr.length c5)).cell? ⟨A, 1, none⟩ = some (.slice (some ⟨G, 0, none⟩) n cG) := D6.a.cell 1
  have cg : (w5.setCell ⟨A, 0, none⟩ (.slice x5 lr.length c5)).cell? ⟨G, s, none⟩ = some (.int .i64 (M.g.getD s 0 : Nat)) := by rw [← natI_get]; exact D6.g.cell (by rw [natI_length]; show s < M.g.length; rw [HX.out.2.1.g]; exact hsn)
  have fg := D6.g.frozen s
  have hgs := HX.out.2.2.2.1
  rw [HY.out] at cg hgs
  have H6 := Lib.hid (And.intro D6 (And.intro M6 hnew))
  generalize w5.setCell ⟨A, 0, none⟩ (.slice x5 lr.length c5) = w6 at c1 cg fg H6 ⊢
  have s0 : (0 : Int) ≤ s := by omega
  have s1 : (s : Int) < n := by omega
  have s2 : (s : Int) ≤ 256 := by omega
  clear D6 M6 hnew cA fA HR5
  go_upto_region 7 with fail
  have D7 := H6.out.1.setG s (y + 1)
  rw [show ((y + 1 : Nat) : Int) = (y : Int) + 1 by omega] at D7
  have M7 := H6.out.2.1.trans (Moved.of_set w6 ⟨G, s, none⟩ (.int .i64 ((y : Int) + 1)) (S := fun j => j = G) rfl) fun k hk => .inl (.inr (.inr (.inl (by rw [hk]; rfl))))
  have c2 : (w6.setCell ⟨G, s, none⟩ (.int .i64 ((y : Int) + 1))).cell? ⟨A, 2, none⟩ = some (.slice (some ⟨U, 0, none⟩) n cU) := D7.a.cell 2
  have cu : (w6.setCell ⟨G, s, none⟩ (.int .i64 ((y : Int) + 1))).cell? ⟨U, s, none⟩ = some (.bool (M.u.getD s false)) := D7.u.cell (by show s < M.u.length; rw [HX.out.2.1.u]; exact hsn)
  have fu := D7.u.frozen s
  have H7 := Lib.hid (And.intro D7 (And.intro M7 H6.out.2.2))
  generalize w6.setCell ⟨G, s, none⟩ (.int .i64 ((y : Int) + 1)) = w7 at c2 cu fu H7 ⊢
  clear D7 M7 H6 c1 cg fg
  go_upto_region 8 with fail
  have D8 := H7.out.1.setU s true
  have M8 := H7.out.2.1.trans (Moved.of_set w7 ⟨U, s, none⟩ (.bool true) (S := fun j => j = U) rfl) fun k hk => .inl (.inr (.inr (.inr (by rw [hk]; rfl))))
  have e8 : ({ row := r, g := M.g.set s (y + 1), u := M.u.set s true } : AM) = M.make s r := by unfold AM.make; rw [HY.out]
  have D8' : DA (w7.setCell ⟨U, s, none⟩ (.bool true)) base A (.slice x5 lr.length c5) (.slice (some ⟨G, 0, none⟩) n cG) (.slice (some ⟨U, 0, none⟩) n cU) (M.make s r) := by rw [← e8]; exact D8
  have hok := HX.out.2.1.make HX.out.2.2.1 HX.out.2.2.2.1
  have ha := dat_any D8' hok (s : Int)
  have hat : (M.make s r).at (s : Int) = 256 * ((y + 1 : Nat) : Int) + s := by
    unfold AM.at
    show (if (0 : Int) ≤ (s : Int) ∧ (s : Int) < ((M.g.set s (M.g.getD s 0 + 1)).length : Nat) ∧ (M.u.set s true).getD ((s : Int)).toNat false = true then 256 * (((M.g.set s (M.g.getD s 0 + 1)).getD ((s : Int)).toNat 0 : Nat) : Int) + (s : Int) else 0) = _
    rw [Int.toNat_natCast, getD_set_bool _ _ _ _ (by rw [HX.out.2.1.u]; exact hsn), getD_set_nat _ _ _ _ (by rw [HX.out.2.1.g]; exact hsn), if_pos rfl, if_pos rfl, HY.out]
    rw [if_pos ⟨by omega, by rw [List.length_set, HX.out.2.1.g]; omega, rfl⟩]
  rw [hat] at ha
  have HA := Lib.hid ha
  have H8 := Lib.hid (And.intro D8' (And.intro M8 H7.out.2.2))
  generalize w7.setCell ⟨U, s, none⟩ (.bool true) = w8 at HA H8 ⊢
  clear D8 D8' M8 e8 hok ha hat H7 c2 cu fu
  go_wp2_with (go_at_call 56; refine HA.out.mono ?_; rintro e w' ⟨rfl, rfl⟩)
  go_ret2
  refine ⟨rfl, _, H8.out.1, H8.out.2.1, fun j hj => ?_⟩
  rcases hj with h1 | h1 | h1 | h1
  · exact .inl (.inl h1)
  · exact .inr (H8.out.2.2 j h1)
  · exact .inl (.inr (.inr (.inl h1)))
  · exact .inl (.inr (.inr (.inr h1)))
theorem dfree_no (h : DA w base A rv gv uv M) (ho : AOk M n) (z : Int) (hz63 : z ≤ 9223372036854775807) (hz : M.slot z < 0) : Calls Try.prog 48 #[.pointer (some ⟨A, 0, none⟩), .int .i64 z] w fun e w' => e = .returned (.int .i64 5) ∧ w = w' := by
  have hs := Lib.hid (dslot_any h ho z hz63)
  obtain ⟨y, hy⟩ : ∃ y, M.slot z = y := ⟨_, rfl⟩
  rw [hy] at hs hz
  clear h ho hy
  go_enter Try.func48, Try.ntmps48
  go_wp2_with (go_at_call 53; refine hs.out.mono ?_; rintro e w' ⟨rfl, rfl⟩)
  go_ret
  exact ⟨rfl, rfl⟩
set_option maxRecDepth 100000 in
set_option maxHeartbeats 2000000 in
theorem dfree_any (h : DA w base A rv gv uv M) (ho : AOk M n) (z : Int) (hz63 : z ≤ 9223372036854775807) (s : Nat) (hz : M.slot z = s) (hsn : s < n) :
    Calls Try.prog 48 #[.pointer (some ⟨A, 0, none⟩), .int .i64 z] w fun e w' => e = .returned (.int .i64 0) ∧ ∃ rv', DA w' base A rv' gv uv (M.free s) ∧ Moved w w' (daB A rv gv uv) ∧ ∀ j, daB A rv' gv uv j → daB A rv gv uv j ∨ w.heap.size ≤ j := by
  have hs := dslot_any h ho z hz63
  rw [hz] at hs
  have HSL := Lib.hid hs
  obtain ⟨U, cU, rfl⟩ := h.uf ho
  have c2 : w.cell? ⟨A, 2, none⟩ = some (.slice (some ⟨U, 0, none⟩) n cU) := h.a.cell 2
  have cu : w.cell? ⟨U, s, none⟩ = some (.bool (M.u.getD s false)) := h.u.cell (by rw [ho.u]; exact hsn)
  have fu := h.u.frozen s
  have D1 := h.setU s false
  have M1 : Moved w (w.setCell ⟨U, s, none⟩ (.bool false)) (daB A rv gv (.slice (some ⟨U, 0, none⟩) n cU)) := Moved.of_set w ⟨U, s, none⟩ (.bool false) (.inr (.inr (.inr rfl)))
  obtain ⟨x, c, hrv⟩ := h.r.any
  rw [natI_length] at hrv
  subst hrv
  obtain ⟨m, hm⟩ : ∃ m, M.row.length = m := ⟨_, rfl⟩
  obtain ⟨lr, hlr⟩ : ∃ lr, natI M.row = lr := ⟨_, rfl⟩
  have hlm : lr.length = m := by rw [← hlr, natI_length]; exact hm
  have hm2 : m ≤ 256 := by rw [← hm]; exact Nat.le_trans ho.r ho.n2
  rw [hm] at D1 M1 h ⊢
  have HX := Lib.hid (And.intro h (And.intro ho (And.intro hlr (And.intro hlm hm))))
  have H1 := Lib.hid (And.intro D1 M1)
  have s0 : (0 : Int) ≤ s := by omega
  have s1 : (s : Int) < n := by omega
  have hn := ho.n2
  clear h ho hlr hlm hm D1 M1 hz hs
  go_enter Try.func48, Try.ntmps48
  go_upto_region 5 with (go_at_call 53; refine HSL.out.mono ?_; rintro e w' ⟨rfl, rfl⟩)
  generalize w.setCell ⟨U, s, none⟩ (.bool false) = w1 at H1 ⊢
  have hb1 := H1.out.1.lt (.inl rfl)
  have hb2 : base ≤ w1.heap.size := by omega
  have hal : Below w1.heap.size w1 (w1.alloc (.cells #[.int .i64 (s : Int)] 3)) := fb_alloc (Below.refl _ _) _
  have D2 := H1.out.1.below hal
  have c0 : (w1.alloc (.cells #[.int .i64 (s : Int)] 3)).cell? ⟨A, 0, none⟩ = some (.slice x m c) := D2.a.cell 0
  have hr1 : IRow (w1.alloc (.cells #[.int .i64 (s : Int)] 3)) w1.heap.size (.slice (some ⟨w1.heap.size, 0, none⟩) 1 1) [(s : Int)] := Arr.own (vs := [.int .i64 (s : Int)]) (Arr.new w1 3 [.int .i64 (s : Int)]) (Nat.le_refl _) (by simp [maxLen])
  have hS2 : SInts (w1.alloc (.cells #[.int .i64 (s : Int)] 3)) x m lr := by have := SInts.own D2.r; rw [show natI _ = lr from HX.out.2.2.1] at this; exact this
  have HR := Lib.hid (And.intro hr1 (And.intro hS2 hal))
  clear hr1 hS2 hal D2 cu fu c2 hb1
  go_upto_region 6 with (at_builtin; refine wpList_append_ints rfl _ _ rfl rfl HR.out.1 rfl HR.out.2.1 (by rw [HX.out.2.2.2.1]; simp; omega) (by simp) ?_; intro v5 w5 hr5 hg5 hf5; have hb5 : Below w1.heap.size w1 w5 := HR.out.2.2.grown hg5 HR.out.2.2.size (fun k e => (World.ownsRow.lt HR.out.1 k e).1); have cA : w5.cell? ⟨A, 0, none⟩ = some (.slice x m c) := (H1.out.1.below hb5).a.cell 0; have fA := (H1.out.1.below hb5).a.frozen 0; rw [show [(s : Int)] ++ lr = natI (s :: M.row) from by rw [← HX.out.2.2.1]; rfl] at hr5; obtain ⟨l5, hl5⟩ : ∃ l5, natI (s :: M.row) = l5 := ⟨_, rfl⟩; rw [hl5] at hr5; obtain ⟨x5, c5, rfl⟩ := hr5.any; have HR5 := Lib.hid (And.intro hr5 (And.intro hb5 hl5)); clear hr5 hg5 hf5 hb5 hl5)
  have hnew : ∀ k, (Value.slice x5 l5.length c5).ownBlock = some k → w1.heap.size ≤ k := fun k hk => (World.ownsRow.lt HR5.out.1 k hk).1
  have D6 := (H1.out.1.below HR5.out.2.1).setRow (r := s :: M.row) (v := .slice x5 l5.length c5) (by rw [HR5.out.2.2]; exact own_mono' HR5.out.1 hb2) (fun k hk e => by have := hnew k hk; have := (World.ownsRow.lt H1.out.1.g k e).2; omega)
  have M6 := (H1.out.2.trans (Moved.of_below HR5.out.2.1 (fun _ => False)) fun k hk => hk.elim).trans (Moved.of_set w5 ⟨A, 0, none⟩ (.slice x5 l5.length c5) (S := fun j => j = A) rfl) fun k hk => .inl (.inl hk)
  have H6 := Lib.hid (And.intro D6 (And.intro M6 hnew))
  clear D6 M6 hnew cA fA
  go_wp2
  go_ret
  refine ⟨rfl, _, H6.out.1, H6.out.2.1, fun j hj => ?_⟩
  rcases hj with h1 | h1 | h1 | h1
  · exact .inl (.inl h1)
  · exact .inr (Nat.le_trans H1.out.2.size (H6.out.2.2 j h1))
  · exact .inl (.inr (.inr (.inl h1)))
  · exact .inl (.inr (.inr (.inr h1)))
end
end Go.Proofs.Ytfkkkndigkchcaa
