/- The contracts of zones over lists. No condition. -/
import Derived.Test.YtfkkkndigkchcaaZoneD
import Derived.Test.YtfkkkndigkchcaaZoneE
import Derived.Test.YtfkkkndigkchcaaZoneF
import Derived.Test.YtfkkkndigkchcaaZoneG
import Derived.Test.YtfkkkndigkchcaaTrailMid
namespace Go.Proofs.Ytfkkkndigkchcaa
open Go.RowKit
attribute [local irreducible] Calls

/-- The list of any number. -/
def zget (L : List (List Nat)) (z : Int) : List Nat := if 0 ≤ z then L.getD z.toNat [] else []
theorem zget_nat (L : List (List Nat)) (z : Nat) : zget L (z : Int) = L.getD z [] := by unfold zget; rw [if_pos (by omega), Int.toNat_natCast]
/-- Nowhere. -/
def zno (L : List (List Nat)) (s : Int) : Prop := ∀ z t : Nat, t ∈ L.getD z [] → (t : Int) ≠ s
def ints (l : List Nat) : List Int := l.map fun n : Nat => (n : Int)
theorem ints_length (l : List Nat) : (ints l).length = l.length := by simp [ints]
theorem ints_get (l : List Nat) (j : Nat) : (ints l).getD j 0 = (l.getD j 0 : Nat) := by
  unfold ints
  by_cases h : j < l.length
  · simp [List.getD_eq_getElem?_getD, h]
  · simp [List.getD_eq_getElem?_getD, List.getElem?_eq_none (Nat.not_lt.1 h)]
theorem ints_inj {a b : List Nat} (h : ints a = ints b) : a = b := by
  unfold ints at h
  exact List.map_inj_right (fun x y e => by omega) |>.1 h
section
variable {w0 w w' : World} {col : Nat → Nat} {c k n : Nat} {b : ZB} {g : ZG} {q : List Int × List (Int × Int)} {L L' : List (List Nat)}
theorem ZL.rep (h : ZL w0 w col c b g k q L) : ∃ m, ZRep g L m := by obtain ⟨m, _, h⟩ := h; exact ⟨m, h⟩
theorem ZL.zl (h : ZL w0 w col c b g k q L) : L.length = g.zones := by obtain ⟨m, _, h⟩ := h; exact h.zl
theorem ZL.sl (h : ZL w0 w col c b g k q L) {z s : Nat} (hs : s ∈ L.getD z []) : s < g.slots := by obtain ⟨m, _, h⟩ := h; exact h.sl z s hs
theorem ZL.nodup (h : ZL w0 w col c b g k q L) (z : Nat) : (L.getD z []).Nodup := by obtain ⟨m, _, h⟩ := h; exact h.nodup z
theorem ZL.one (h : ZL w0 w col c b g k q L) {x z s : Nat} (hx : s ∈ L.getD x []) (hz : s ∈ L.getD z []) : x = z := by obtain ⟨m, _, h⟩ := h; exact h.one hx hz
theorem ZL.out (h : ZL w0 w col c b g k q L) {z s : Nat} (hs : s ∈ L.getD z []) : z < g.zones := by obtain ⟨m, _, h⟩ := h; exact h.out hs
theorem ZL.le (h : ZL w0 w col c b g k q L) (z : Nat) : (L.getD z []).length ≤ g.slots := by obtain ⟨m, _, h⟩ := h; exact h.le z
theorem ZL.bel (h : ZL w0 w col c b g k q L) : Below w0.heap.size w0 w := by obtain ⟨m, h, _⟩ := h; exact h.bel
theorem ZL.sm (h : ZL w0 w col c b g k q L) : ZSm g := by obtain ⟨m, h, _⟩ := h; exact h.sm
theorem ZL.mono (h : ZL w0 w col c b g k q L) (hn : k ≤ n) : ZL w0 w col c b g n q L := by obtain ⟨m, h, h2⟩ := h; exact ⟨m, h.mono hn, h2⟩
theorem ZL.ofHist {q' : List Int × List (Int × Int)} (h : ZL w0 w col c b g k q L) (hh : Hist q' q) : ZL w0 w col c b g k q' L := by obtain ⟨m, h, h2⟩ := h; exact ⟨m, h.ofHist hh, h2⟩
theorem ZL.below (h : ZL w0 w col c b g k q L) (hb : Below w.heap.size w w') (a : Nat) : ZL w0 w' (recol w.heap.size col a) c b g k q L := by obtain ⟨m, h, h2⟩ := h; exact ⟨m, h.below hb a, h2⟩
theorem ZL.moved {S : Nat → Prop} {a : Nat} (h : ZL w0 w col c b g k q L) (hm : Moved w w' S) (hS : ∀ j, S j → j < w.heap.size → col j = a) (hb : ∀ j, S j → w0.heap.size ≤ j) (hne : c ≠ a) : ZL w0 w' (recol w.heap.size col a) c b g k q L := by obtain ⟨m, h, h2⟩ := h; exact ⟨m, h.moved hm hS hb hne, h2⟩
theorem ZL.recl {col' : Nat → Nat} (h : ZL w0 w col c b g k q L) (hc : ∀ j, j < w.heap.size → col j = c → col' j = c) : ZL w0 w col' c b g k q L := by obtain ⟨m, h, h2⟩ := h; exact ⟨m, h.col hc, h2⟩
theorem ZLN.st (h : ZLN w0 w w' col c b g k q L) : ZL w0 w' (recol w.heap.size col c) c b g k q L := by obtain ⟨m, h, h2⟩ := h; exact ⟨m, h.1, h2⟩
theorem ZLN.mv (h : ZLN w0 w w' col c b g k q L) : Moved w w' (fun j => col j = c) := by obtain ⟨m, h, h2⟩ := h; exact h.2
theorem ZLN.mono (h : ZLN w0 w w' col c b g k q L) (hn : k ≤ n) : ZLN w0 w w' col c b g n q L := by obtain ⟨m, h, h2⟩ := h; exact ⟨m, h.mono hn, h2⟩
theorem ZLN.same (h : ZL w0 w col c b g k q L) (hb : Below w.heap.size w w') : ZLN w0 w w' col c b g k q L := by obtain ⟨m, h, h2⟩ := h; exact ⟨m, ZSN.same h hb, h2⟩
theorem ZLN.pre {w1 : World} (hb : Below w.heap.size w w1) (h : ZLN w0 w1 w' (recol w.heap.size col c) c b g k q L) : ZLN w0 w w' col c b g k q L := by obtain ⟨m, h, h2⟩ := h; exact ⟨m, ZSN.pre hb h, h2⟩
theorem ZLN.trans {w1 : World} (h : ZLN w0 w w1 col c b g k q L) (h2 : ZLN w0 w1 w' (recol w.heap.size col c) c b g n q L') : ZLN w0 w w' col c b g n q L' := by
  obtain ⟨m, h, _⟩ := h; obtain ⟨m', h', h3⟩ := h2; exact ⟨m', h.trans h', h3⟩
theorem zget_out (h : ZL w0 w col c b g k q L) {z : Int} (hz : z < 0 ∨ (g.zones : Int) ≤ z) : zget L z = [] := by
  unfold zget
  by_cases h0 : 0 ≤ z
  · rw [if_pos h0, List.getD_eq_getElem?_getD, List.getElem?_eq_none (by rw [h.zl]; omega)]; rfl
  · rw [if_neg h0]
theorem zl_len (h : ZL w0 w col c b g k q L) (z : Int) : Calls Try.prog 42 #[.pointer (some ⟨b.Z, 0, none⟩), .int .i64 z] w fun e w' => e = .returned (.int .i64 (zget L z).length) ∧ Below w.heap.size w w' := by
  by_cases hz : z < 0 ∨ (g.zones : Int) ≤ z
  · rw [zget_out h hz]
    obtain ⟨m, h, hr⟩ := h
    exact zlen_out h z hz
  · obtain ⟨z', rfl⟩ := Int.eq_ofNat_of_zero_le (show 0 ≤ z by omega)
    obtain ⟨m, h, hr⟩ := h
    rw [zget_nat, ← hr.cnt z' (by omega)]
    exact zlen_in h z' (by omega)
theorem zl_list (h : ZL w0 w col c b g k q L) (z : Int) : Calls Try.prog 39 #[.pointer (some ⟨b.Z, 0, none⟩), .int .i64 z] w fun e w' => ∃ r, e = .returned r ∧ IRow w' w.heap.size r (ints (zget L z)) ∧ Below w.heap.size w w' := by
  by_cases hz : z < 0 ∨ (g.zones : Int) ≤ z
  · rw [zget_out h hz]
    obtain ⟨m, h, hr⟩ := h
    exact zlist_out h z hz
  · obtain ⟨z', rfl⟩ := Int.eq_ofNat_of_zero_le (show 0 ≤ z by omega)
    obtain ⟨m, h, hr⟩ := h
    rw [zget_nat]
    exact zlist_in h z' (by omega) _ (hr.cnt z' (by omega)) (fun j hj => hr.cell z' j (by omega) hj) (hr.le z')
theorem zl_where_yes (h : ZL w0 w col c b g k q L) (z j : Nat) (hj : j < (L.getD z []).length) : Calls Try.prog 38 #[.pointer (some ⟨b.Z, 0, none⟩), .int .i64 ((L.getD z []).getD j 0 : Nat)] w fun e w' => e = .returned (.tuple #[.int .i64 (z : Int), .int .i64 (j : Int), .bool true]) ∧ Below w.heap.size w w' := by
  obtain ⟨m, h, hr⟩ := h
  have hz := hr.out (getD_mem' hj)
  have hh := hr.home z j hz hj
  exact where_yes h _ z j (hr.sl z _ (getD_mem' hj)) hz hh.1 hh.2
theorem zl_where_no (h : ZL w0 w col c b g k q L) (s : Int) (hs : zno L s) : Calls Try.prog 38 #[.pointer (some ⟨b.Z, 0, none⟩), .int .i64 s] w fun e w' => e = .returned (.tuple #[.int .i64 0, .int .i64 0, .bool false]) ∧ Below w.heap.size w w' := by
  obtain ⟨m, h, hr⟩ := h
  by_cases ho : s < 0 ∨ (g.slots : Int) ≤ s
  · exact where_out h s ho
  · obtain ⟨s', rfl⟩ := Int.eq_ofNat_of_zero_le (show 0 ≤ s by omega)
    exact where_no h s' (by omega) (hr.free s' (by omega) fun z hm => hs z s' hm rfl)
/-- At answers. -/
def zat (L : List (List Nat)) (z i : Int) : Int × Int := if 0 ≤ i ∧ i < ((zget L z).length : Int) then (((zget L z).getD i.toNat 0 : Nat), 0) else (0, 5)
theorem zl_at (h : ZL w0 w col c b g k q L) (z i : Int) : Calls Try.prog 64 #[.pointer (some ⟨b.Z, 0, none⟩), .int .i64 z, .int .i64 i] w fun e w' => e = .returned (.tuple #[.int .i64 (zat L z i).1, .int .i64 (zat L z i).2]) ∧ Below w.heap.size w w' := by
  unfold zat
  by_cases h0 : i < 0
  · rw [if_neg (by omega)]; exact zat_low w b.Z z i h0
  · by_cases h1 : ((zget L z).length : Int) ≤ i
    · rw [if_neg (by omega)]; exact zat_big z i (zl_len h z) (by omega) h1
    · rw [if_pos (by omega)]
      have hz : ¬ (z < 0 ∨ (g.zones : Int) ≤ z) := fun hz => by rw [zget_out h hz] at h1; simp at h1; omega
      obtain ⟨z', rfl⟩ := Int.eq_ofNat_of_zero_le (show 0 ≤ z by omega)
      obtain ⟨i', rfl⟩ := Int.eq_ofNat_of_zero_le (show 0 ≤ i by omega)
      rw [zget_nat] at h1 ⊢
      obtain ⟨m, h, hr⟩ := h
      have hz' : z' < g.zones := by omega
      have hi' : i' < (L.getD z' []).length := by omega
      rw [Int.toNat_natCast, ← hr.cell z' i' hz' hi']
      exact zat_in h z' i' hz' (by rw [hr.cnt z' hz']; omega) (Nat.lt_of_lt_of_le hi' (hr.le z'))
theorem zl_put (h : ZL w0 w col c b g k q L) (hk : k ≤ 800000000) (z s i0 : Nat) (hz : z < g.zones) (hs : s < g.slots) (hno : zno L s) (hi : i0 ≤ (L.getD z []).length) :
    Calls Try.prog 37 #[.pointer (some ⟨b.Z, 0, none⟩), .int .i64 (z : Int), .int .i64 (i0 : Int), .int .i64 (s : Int)] w fun e w' => e = .returned (.int .i64 0) ∧ ZLN w0 w w' col c b g (k + 1000) q (L.set z (putL (L.getD z []) i0 s)) := by
  obtain ⟨m, h, hr⟩ := h
  exact put_in h hr hk z s i0 hz hs (fun x hx => hno x s hx rfl) _ rfl hi
theorem zl_put_end (h : ZL w0 w col c b g k q L) (hk : k ≤ 800000000) (z s : Nat) (hz : z < g.zones) (hs : s < g.slots) (hno : zno L s) :
    Calls Try.prog 37 #[.pointer (some ⟨b.Z, 0, none⟩), .int .i64 (z : Int), .int .i64 (-1), .int .i64 (s : Int)] w fun e w' => e = .returned (.int .i64 0) ∧ ZLN w0 w w' col c b g (k + 1000) q (L.set z (putL (L.getD z []) (L.getD z []).length s)) := by
  obtain ⟨m, h, hr⟩ := h
  exact put_end h hr hk z s _ hz hs (fun x hx => hno x s hx rfl) _ rfl rfl
theorem zl_put_twice (h : ZL w0 w col c b g k q L) (z x j : Nat) (i : Int) (hz : z < g.zones) (hj : j < (L.getD x []).length) (hi : -1 ≤ i) (hi2 : i ≤ ((L.getD z []).length : Nat)) :
    Calls Try.prog 37 #[.pointer (some ⟨b.Z, 0, none⟩), .int .i64 (z : Int), .int .i64 i, .int .i64 ((L.getD x []).getD j 0 : Nat)] w fun e w' => e = .returned (.int .i64 11) ∧ Below w.heap.size w w' := by
  obtain ⟨m, h, hr⟩ := h
  have hx := hr.out (getD_mem' hj)
  have hh := hr.home x j hx hj
  exact put_twice h z _ x j i hz (hr.sl x _ (getD_mem' hj)) hx hh.1 hh.2 hi (by rw [hr.cnt z hz]; exact hi2)
theorem zl_put_arg (h : ZL w0 w col c b g k q L) (z i s : Int) (hbad : (z < 0 ∨ (g.zones : Int) ≤ z) ∨ (s < 0 ∨ (g.slots : Int) ≤ s) ∨ (i < -1 ∨ ((zget L z).length : Int) < i)) :
    Calls Try.prog 37 #[.pointer (some ⟨b.Z, 0, none⟩), .int .i64 z, .int .i64 i, .int .i64 s] w fun e w' => e = .returned (.int .i64 2) ∧ Below w.heap.size w w' := by
  obtain ⟨m, h, hr⟩ := h
  by_cases hz : z < 0 ∨ (g.zones : Int) ≤ z
  · exact put_zone h z i s hz
  · obtain ⟨z', rfl⟩ := Int.eq_ofNat_of_zero_le (show 0 ≤ z by omega)
    have hz' : z' < g.zones := by omega
    by_cases hs : s < 0 ∨ (g.slots : Int) ≤ s
    · exact put_slot h z' i s hz' hs
    · obtain ⟨s', rfl⟩ := Int.eq_ofNat_of_zero_le (show 0 ≤ s by omega)
      rw [zget_nat, ← hr.cnt z' hz'] at hbad
      exact put_at h z' s' i hz' (by omega) (by rcases hbad with h | h | h <;> first | exact absurd h hz | exact absurd h hs | exact h)
theorem zl_take (h : ZL w0 w col c b g k q L) (hk : k ≤ 800000000) (z j : Nat) (hj : j < (L.getD z []).length) :
    Calls Try.prog 40 #[.pointer (some ⟨b.Z, 0, none⟩), .int .i64 ((L.getD z []).getD j 0 : Nat)] w fun e w' => e = .returned (.int .i64 0) ∧ ZLN w0 w w' col c b g (k + 1000) q (L.set z (takeL (L.getD z []) j)) := by
  obtain ⟨m, h, hr⟩ := h
  exact take_ok h hr hk z j _ rfl hj
theorem zl_take_none (h : ZL w0 w col c b g k q L) (s : Int) (hs : zno L s) : Calls Try.prog 40 #[.pointer (some ⟨b.Z, 0, none⟩), .int .i64 s] w fun e w' => e = .returned (.int .i64 5) ∧ Below w.heap.size w w' := take_none s (zl_where_no h s hs)
theorem zl_new {T : Nat} {O : Nat → Prop} (ht : TrS w0 w T O [] []) (hoc : ∀ j, O j → col j = c) (zones slots : Nat) (hz1 : 1 ≤ zones) (hz2 : zones ≤ 64) (hs1 : 1 ≤ slots) (hs2 : slots ≤ 256) :
    Calls Try.prog 36 #[.pointer (some ⟨T, 0, none⟩), .int .i64 (zones : Int), .int .i64 (slots : Int)] w fun e w' => ∃ b q, e = .returned (.pointer (some ⟨b.Z, 0, none⟩)) ∧ b.T = T ∧ ZLN w0 w w' col c b ⟨0, zones, slots⟩ 1 q (List.replicate zones []) :=
  (znew_any ht hoc zones slots hz1 hz2 hs1 hs2 (by simp) (by simp)).mono fun e w' ⟨b, q, m, he, hT, h1, h2⟩ => ⟨b, q, he, hT, m, h1, h2⟩
/-- A mark. -/
def ZLMark (g : ZG) (k : Nat) (q : List Int × List (Int × Int)) (L : List (List Nat)) (x : Int) : Prop := ∃ m, ZMark g k q m x ∧ ZRep g L m
theorem zl_mark (h : ZL w0 w col c b g k q L) :
    Calls Try.prog 26 #[.pointer (some ⟨b.T, 0, none⟩)] w fun e w' => ∃ q' x, e = .returned (.int .i64 x) ∧ ZLMark g k q' L x ∧ ZL w0 w col c b g k q' L ∧ Hist q q' ∧ w = w' := by
  obtain ⟨m, h, hr⟩ := h
  exact (zs_mark h).mono fun e w' ⟨q', x, he, h1, h2, h3⟩ => ⟨q', x, he, ⟨m, h1, hr⟩, ⟨m, h2, hr⟩, h3⟩
theorem zl_back (h : ZL w0 w col c b g k q L) (hk : k ≤ 1000000000) {x : Int} (hx : ZLMark g n q L' x) :
    Calls Try.prog 24 #[.pointer (some ⟨b.T, 0, none⟩), .int .i64 x] w fun e w' => e = .returned (.int .i64 0) ∧ ZLN w0 w w' col c b g n q L' := by
  obtain ⟨m, h, hr⟩ := h
  obtain ⟨m', hm, hr'⟩ := hx
  exact (zs_back h hk hm).mono fun e w' ⟨he, h1⟩ => ⟨he, m', h1, hr'⟩
theorem List.set_self {α : Type} (L : List α) (z : Nat) (d x : α) (h : L.getD z d = x) : L.set z x = L := by
  by_cases hz : z < L.length
  · apply List.ext_getElem (by simp)
    intro i h1 h2
    rw [List.getElem_set]
    by_cases e : z = i
    · subst e; rw [if_pos rfl, ← h, List.getD_eq_getElem?_getD, List.getElem?_eq_getElem hz]; rfl
    · rw [if_neg e]
  · exact List.set_eq_of_length_le (by omega)
/-- Reorder, of any list of numbers that lies apart. -/
theorem zl_re (h : ZL w0 w col c b g k q L) (hk : k ≤ 800000000) (z : Int) (v : Value) (pm : List Int) (hv : Ints w w.heap.size v pm) (hvo : ∀ bl o n' c', v = .slice (some ⟨bl, o, none⟩) n' c' → col bl ≠ c) :
    Calls Try.prog 63 #[.pointer (some ⟨b.Z, 0, none⟩), .int .i64 z, v] w fun e w' =>
      (((0 ≤ z ∧ z < (g.zones : Int)) ∧ permOk pm (zget L z).length = true) ∧ e = .returned (.int .i64 0) ∧ ZLN w0 w w' col c b g (k + 1000) q (L.set z.toNat (reL (zget L z) pm))) ∨
      (¬ ((0 ≤ z ∧ z < (g.zones : Int)) ∧ permOk pm (zget L z).length = true) ∧ e = .returned (.int .i64 2) ∧ Below w.heap.size w w') := by
  by_cases hz : z < 0 ∨ (g.zones : Int) ≤ z
  · obtain ⟨m, h, hr⟩ := h
    exact (re_zone h z hz v).mono fun e w' h1 => .inr ⟨fun h2 => by omega, h1⟩
  · obtain ⟨z', rfl⟩ := Int.eq_ofNat_of_zero_le (show 0 ≤ z by omega)
    have hz' : z' < g.zones := by omega
    rw [zget_nat, Int.toNat_natCast]
    obtain ⟨m, h, hr⟩ := h
    have hcnt := hr.cnt z' hz'
    obtain ⟨x, c', rfl, p1⟩ := hv.parts
    by_cases hl : pm.length = (L.getD z' []).length
    · by_cases h0 : (L.getD z' []).length = 0
      · have hp0 : pm = [] := List.eq_nil_of_length_eq_zero (by omega)
        subst hp0
        have hL0 : L.getD z' [] = [] := List.eq_nil_of_length_eq_zero h0
        rw [hL0] at hcnt ⊢
        refine (re_empty h z' hz' hcnt x c').mono fun e w' h1 => .inl ⟨⟨⟨by omega, by omega⟩, rfl⟩, h1.1, m, (ZSN.same h h1.2).mono (by omega), ?_⟩
        rw [List.set_self L z' [] (reL [] []) hL0]; exact hr
      · rcases p1 with rfl | ⟨pb, po, rfl, hlt, hcell⟩
        · exact absurd hl.symm h0
        · refine (re_any h hr hk z' hz' _ rfl (by omega) pm hl pb po c' hlt (hvo pb po _ _ rfl) hcell).mono ?_
          rintro e w' (⟨h1, he, m', h2, h3⟩ | ⟨h1, he, h2⟩)
          · exact .inl ⟨⟨⟨by omega, by omega⟩, h1⟩, he, m', h2, h3⟩
          · exact .inr ⟨fun h3 => (by rw [h3.2] at h1; cases h1), he, h2⟩
    · refine (re_len h z' hz' _ hcnt x _ c' hl).mono fun e w' h1 => .inr ⟨fun h2 => hl ((permOk_iff _ _).1 h2.2).1, h1⟩
theorem zl_re_ok (h : ZL w0 w col c b g k q L) (hk : k ≤ 800000000) (z : Int) (v : Value) (pm : List Int) (hv : Ints w w.heap.size v pm) (hvo : ∀ bl o n' c', v = .slice (some ⟨bl, o, none⟩) n' c' → col bl ≠ c) (hok : (0 ≤ z ∧ z < (g.zones : Int)) ∧ permOk pm (zget L z).length = true) :
    Calls Try.prog 63 #[.pointer (some ⟨b.Z, 0, none⟩), .int .i64 z, v] w fun e w' => e = .returned (.int .i64 0) ∧ ZLN w0 w w' col c b g (k + 1000) q (L.set z.toNat (reL (zget L z) pm)) :=
  (zl_re h hk z v pm hv hvo).mono fun _ _ h1 => h1.elim (fun h => h.2) (fun h => absurd hok h.1)
theorem zl_re_bad (h : ZL w0 w col c b g k q L) (z : Int) (v : Value) (pm : List Int) (hv : Ints w w.heap.size v pm) (hvo : ∀ bl o n' c', v = .slice (some ⟨bl, o, none⟩) n' c' → col bl ≠ c) (hbad : ¬ ((0 ≤ z ∧ z < (g.zones : Int)) ∧ permOk pm (zget L z).length = true)) (hk : k ≤ 800000000 := by decide) :
    Calls Try.prog 63 #[.pointer (some ⟨b.Z, 0, none⟩), .int .i64 z, v] w fun e w' => e = .returned (.int .i64 2) ∧ Below w.heap.size w w' :=
  (zl_re h hk z v pm hv hvo).mono fun _ _ h1 => h1.elim (fun h => absurd h.1 hbad) (fun h => h.2)
end
end Go.Proofs.Ytfkkkndigkchcaa
