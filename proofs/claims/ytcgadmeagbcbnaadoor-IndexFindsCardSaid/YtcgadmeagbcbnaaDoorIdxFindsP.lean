/- Two indices on two trails, and boxes beside them. No condition. The law's done: slots are filled, emptied and touched. No condition. The plain law of IndexFinds. No condition. -/
import Derived.Test.YtcgadmeagbcbnaaDoorIdxX
import Derived.Test.YtcgadmeagbcbnaaDoorOpenN
namespace Go.Proofs.YtcgadmeagbcbnaaDoor
section
open Go.RowKit
attribute [local irreducible] Calls

/-- Another's cells were written. -/
theorem IS.others {w0 w w' : World} {col : Nat → Nat} {c k a e : Nat} {b : IB} {q : List Int × List (Int × Int)} {m : IM} {S : Nat → Prop} (h : IS w0 w col c b k q m) (hm : Moved w w' S) (hb : ∀ j, S j → w0.heap.size ≤ j ∨ w.heap.size ≤ j) (hS : ∀ j, S j → j < w.heap.size → col j = a) (hne : c ≠ a) : IS w0 w' (recol w.heap.size col e) c b k q m := by
  obtain ⟨O, p, h1, h2⟩ := h
  have hs := h1.t.bel.size
  have hbel : Below w0.heap.size w0 w' := h1.t.bel.trans (hm.below (fun j hj => by rcases hb j hj with h | h <;> omega) hs)
  have hx : ∀ j, col j = c → j < w.heap.size → ¬ S j := fun j hj hl hs => hne (hj.symm.trans (hS j hs hl))
  exact ⟨O, p, ⟨fun j hj => (recol_lt (h1.t.base hj).2).trans (h1.oc j hj), fun j hj => (recol_lt (h1.f.isLt hj)).trans (h1.bc j hj),
    h1.t.moved hm hbel (fun j hj => hx j (h1.oc j hj) (h1.t.base hj).2), h1.o, h1.f.moved hm (fun j hj => hx j (h1.bc j hj) (h1.f.isLt hj)), h1.h, h1.g⟩, h2⟩
theorem IS.paint {w0 w : World} {col col' : Nat → Nat} {c c' k : Nat} {b : IB} {q : List Int × List (Int × Int)} {m : IM} (h : IS w0 w col c b k q m) (hc : ∀ j, j < w.heap.size → col j = c → col' j = c') : IS w0 w col' c' b k q m := by
  obtain ⟨O, p, h1, h2⟩ := h
  exact ⟨O, p, ⟨fun j hj => hc j (h1.t.base hj).2 (h1.oc j hj), fun j hj => hc j (h1.f.isLt hj) (h1.bc j hj), h1.t, h1.o, h1.f, h1.h, h1.g⟩, h2⟩
/-- All that was made behind wx: the index b (colour 1), the index f (colour 3), and boxes. -/
structure XY (wx w : World) (b : IB) (k : Nat) (m : IM) (f : IB) (n : Nat) (mf : IM) (R : List (Nat × TypeId × List Value)) : Prop where
  gb : IGood b.abs m
  gf : IGood f.abs mf
  st : ∃ (col : Nat → Nat) (q q' : List Int × List (Int × Int)), IS wx w col 1 b k q m ∧ IS wx w col 3 f n q' mf ∧ (∀ j, col j = 1 ∨ col j = 3 → wx.heap.size ≤ j) ∧ ∀ x ∈ R, col x.1 ≠ 1 ∧ col x.1 ≠ 3 ∧ Arr w x.1 x.2.1 x.2.2
section
variable {wx w wa wc wd we w' : World} {k n k' n' : Nat} {b f : IB} {q q' : List Int × List (Int × Int)} {m mf : IM} {R : List (Nat × TypeId × List Value)}
theorem XY.bel (h : XY wx w b k m f n mf R) : Below wx.heap.size wx w := by obtain ⟨_, _, _, h, _⟩ := h.st; exact h.bel
theorem XY.mono (h : XY wx w b k m f n mf R) (hk : k ≤ k') (hn : n ≤ n') : XY wx w b k' m f n' mf R := by obtain ⟨col, q, q', h1, h2, h3⟩ := h.st; exact ⟨h.gb, h.gf, col, q, q', h1.mono hk, h2.mono hn, h3⟩
theorem XY.at (h : XY wx w b k m f n mf R) {B : Nat} {t : TypeId} {vs : List Value} (hx : (B, t, vs) ∈ R) : Arr w B t vs := by obtain ⟨_, _, _, _, _, _, h4⟩ := h.st; exact (h4 _ hx).2.2
theorem recol_in {x a : Nat} {col : Nat → Nat} {P : Nat → Prop} (h : ∀ j, P (col j) → x ≤ j) {s : Nat} (hs : x ≤ s) (j : Nat) (hj : P (recol s col a j)) : x ≤ j := by
  by_cases e : j < s
  · rw [recol_lt e] at hj; exact h j hj
  · omega
theorem XY.below (h : XY wx w b k m f n mf R) (hb : Below w.heap.size w w') : XY wx w' b k m f n mf R := by
  obtain ⟨col, q, q', h1, h2, h3, h4⟩ := h.st
  exact ⟨h.gb, h.gf, _, q, q', h1.below hb 2, h2.below hb 2, recol_in (P := fun c => c = 1 ∨ c = 3) h3 h1.bel.size, fun x hx => by
    have := h4 x hx
    rw [recol_lt this.2.2.lt]; exact ⟨this.1, this.2.1, this.2.2.below hb this.2.2.lt⟩⟩
theorem XY.box (h : XY wx w b k m f n mf R) (t : TypeId) (vs : List Value) : XY wx (w.alloc (.cells vs.toArray t)) b k m f n mf ((w.heap.size, t, vs) :: R) := by
  obtain ⟨col, q, q', h1, h2, h3, h4⟩ := h.st
  have hb := fb_alloc (Below.refl _ w) (.cells vs.toArray t)
  refine ⟨h.gb, h.gf, _, q, q', h1.below hb 2, h2.below hb 2, recol_in (P := fun c => c = 1 ∨ c = 3) h3 h1.bel.size, fun x hx => ?_⟩
  rcases List.mem_cons.1 hx with rfl | hx
  · dsimp only; rw [recol_ge (Nat.le_refl _)]; exact ⟨by decide, by decide, Arr.new w t vs⟩
  · have := h4 x hx
    rw [recol_lt this.2.2.lt]; exact ⟨this.1, this.2.1, this.2.2.below hb this.2.2.lt⟩
/-- The first box is written. -/
theorem XY.set {B : Nat} {t : TypeId} {vs : List Value} (h : XY wx w b k m f n mf ((B, t, vs) :: R)) (hB : wx.heap.size ≤ B) (hne : ∀ x ∈ R, x.1 ≠ B) (j : Nat) (v : Value) : XY wx (w.setCell ⟨B, j, none⟩ v) b k m f n mf ((B, t, vs.set j v) :: R) := by
  obtain ⟨col, q, q', h1, h2, h3, h4⟩ := h.st
  have hm := Moved.of_set w ⟨B, j, none⟩ v (S := fun k => k = B) rfl
  have hB1 := h4 (B, t, vs) (by simp)
  refine ⟨h.gb, h.gf, _, q, q', h1.others (a := col B) (e := 2) hm (fun j hj => .inl (by omega)) (fun j hj _ => by rw [hj]) (Ne.symm hB1.1), h2.others (a := col B) (e := 2) hm (fun j hj => .inl (by omega)) (fun j hj _ => by rw [hj]) (Ne.symm hB1.2.1), recol_in (P := fun c => c = 1 ∨ c = 3) h3 h1.bel.size, fun x hx => ?_⟩
  rcases List.mem_cons.1 hx with rfl | hx
  · dsimp only; rw [recol_lt hB1.2.2.lt]; exact ⟨hB1.1, hB1.2.1, hB1.2.2.set j v⟩
  · have h5 := h4 x (by simp [hx])
    rw [recol_lt h5.2.2.lt]; exact ⟨h5.1, h5.2.1, h5.2.2.set_other _ _ (hne x hx)⟩
theorem XY.less {R' : List (Nat × TypeId × List Value)} (h : XY wx w b k m f n mf R) (hR : ∀ x ∈ R', x ∈ R) : XY wx w b k m f n mf R' := by obtain ⟨col, q, q', h1, h2, h3, h4⟩ := h.st; exact ⟨h.gb, h.gf, col, q, q', h1, h2, h3, fun x hx => h4 x (hR x hx)⟩
theorem XY.first {m' : IM} {col : Nat → Nat} {q q' : List Int × List (Int × Int)} (h : XY wx w b k m f n mf R) (h2 : IS wx w col 3 f n q' mf) (h3 : ∀ j, col j = 1 ∨ col j = 3 → wx.heap.size ≤ j) (h4 : ∀ x ∈ R, col x.1 ≠ 1 ∧ col x.1 ≠ 3 ∧ Arr w x.1 x.2.1 x.2.2) (hN : ISN wx w w' col 1 b k' q m') (hg : IGood b.abs m') : XY wx w' b k' m' f n mf R :=
  ⟨hg, h.gf, _, q, q', hN.1, h2.others (a := 1) hN.2 (fun j hj => .inl (h3 j (.inl hj))) (fun _ hj _ => hj) (by decide), recol_in (P := fun c => c = 1 ∨ c = 3) h3 h2.bel.size, fun x hx => by
    have := h4 x hx
    rw [recol_lt this.2.2.lt]; exact ⟨this.1, this.2.1, (hN.2.block x.1 this.2.2.lt this.1).trans this.2.2⟩⟩
theorem XY.second {m' : IM} {col : Nat → Nat} {q q' : List Int × List (Int × Int)} (h : XY wx w b k m f n mf R) (h1 : IS wx w col 1 b k q m) (h3 : ∀ j, col j = 1 ∨ col j = 3 → wx.heap.size ≤ j) (h4 : ∀ x ∈ R, col x.1 ≠ 1 ∧ col x.1 ≠ 3 ∧ Arr w x.1 x.2.1 x.2.2) (hN : ISN wx w w' col 3 f n' q' m') (hg : IGood f.abs m') : XY wx w' b k m f n' m' R :=
  ⟨h.gb, hg, _, q, q', h1.others (a := 3) hN.2 (fun j hj => .inl (h3 j (.inr hj))) (fun _ hj _ => hj) (by decide), hN.1, recol_in (P := fun c => c = 1 ∨ c = 3) h3 h1.bel.size, fun x hx => by
    have := h4 x hx
    rw [recol_lt this.2.2.lt]; exact ⟨this.1, this.2.1, (hN.2.block x.1 this.2.2.lt this.2.1).trans this.2.2⟩⟩
theorem xy_put1 (h : XY wx w b k m f n mf R) (hk : k ≤ 700000000) (s cd : Int) : Calls Tryd.prog 18 #[.pointer (some ⟨b.X, 0, none⟩), .int .i64 s, .int .i64 cd] w fun e w' => e = .returned (.tuple #[]) ∧ XY wx w' b (k + 60) (putI b.abs s cd m) f n mf R := by
  obtain ⟨col, q, q', h1, h2, h3, h4⟩ := h.st
  exact (put_any h1 h.gb (by omega) s cd).mono fun e w' ⟨he, hN⟩ => ⟨he, h.first h2 h3 h4 hN (good_put h.gb s cd)⟩
theorem xy_take1 (h : XY wx w b k m f n mf R) (hk : k ≤ 700000000) (s : Int) : Calls Tryd.prog 11 #[.pointer (some ⟨b.X, 0, none⟩), .int .i64 s] w fun e w' => e = .returned (.tuple #[]) ∧ XY wx w' b (k + 110) (takeI b.abs s m) f n mf R := by
  obtain ⟨col, q, q', h1, h2, h3, h4⟩ := h.st
  exact (take_any h1 h.gb hk s).mono fun e w' ⟨he, hN⟩ => ⟨he, h.first h2 h3 h4 hN (good_take h.gb s)⟩
theorem xy_put2 (h : XY wx w b k m f n mf R) (hn : n ≤ 700000000) (s cd : Int) : Calls Tryd.prog 18 #[.pointer (some ⟨f.X, 0, none⟩), .int .i64 s, .int .i64 cd] w fun e w' => e = .returned (.tuple #[]) ∧ XY wx w' b k m f (n + 60) (putI f.abs s cd mf) R := by
  obtain ⟨col, q, q', h1, h2, h3, h4⟩ := h.st
  exact (put_any h2 h.gf (by omega) s cd).mono fun e w' ⟨he, hN⟩ => ⟨he, h.second h1 h3 h4 hN (good_put h.gf s cd)⟩
theorem xy_card1 (h : XY wx w b k m f n mf R) (s : Int) : Calls Tryd.prog 20 #[.pointer (some ⟨b.X, 0, none⟩), .int .i64 s] w fun e w' => e = .returned (.int .i64 (cardI s m)) ∧ Below w.heap.size w w' := by
  obtain ⟨col, q, q', h1, _⟩ := h.st
  exact (icard_any h1 h.gb s).mono fun e w' ⟨he, n, hn⟩ => ⟨he, hn ▸ fb_drewN (Below.refl _ _) n⟩
theorem xy_having1 (h : XY wx w b k m f n mf R) (kd e : Int) (hw : wf2 kd e) : Calls Tryd.prog 26 #[.pointer (some ⟨b.X, 0, none⟩), .int .i64 kd, .int .i64 e] w fun e' w' => e' = .returned (svL (havingI kd e m)) ∧ Below w.heap.size w w' := by
  obtain ⟨col, q, q', h1, _⟩ := h.st
  exact having_any h1 kd e hw
theorem xy_having2 (h : XY wx w b k m f n mf R) (kd e : Int) (hw : wf2 kd e) : Calls Tryd.prog 26 #[.pointer (some ⟨f.X, 0, none⟩), .int .i64 kd, .int .i64 e] w fun e' w' => e' = .returned (svL (havingI kd e mf)) ∧ Below w.heap.size w w' := by
  obtain ⟨col, q, q', _, h1, _⟩ := h.st
  exact having_any h1 kd e hw
theorem xy_made (hs : wx.heap.size ≤ wa.heap.size) (h1 : ISN wx wa wc (fun j => if j < wx.heap.size then 0 else 1) 1 b k q M0) (hb : Below wc.heap.size wc wd) (h2 : ISN wx wd we (fun j => if j < wx.heap.size then 0 else if j < wc.heap.size then 1 else 3) 3 f n q' M0) : XY wx we b k M0 f n M0 [] := by
  have hc := h1.1.bel.size
  have e1 : IS wx wc (fun j => if j < wx.heap.size then 0 else if j < wc.heap.size then 1 else 3) 1 b k q M0 := h1.1.paint fun j hj hc => by
    have : ¬ j < wx.heap.size := fun e => by
      rw [recol_lt (by omega), if_pos e] at hc; cases hc
    rw [if_neg this, if_pos hj]
  have e2 : IS wx wd (fun j => if j < wx.heap.size then 0 else if j < wc.heap.size then 1 else 3) 1 b k q M0 := (e1.below hb 3).paint fun j hj hc => by
    by_cases e : j < wc.heap.size
    · rw [recol_lt e] at hc; exact hc
    · rw [recol_ge (by omega)] at hc; cases hc
  have e3 : ∀ j, (fun j => if j < wx.heap.size then 0 else if j < wc.heap.size then 1 else 3 : Nat → Nat) j = 1 ∨ (fun j => if j < wx.heap.size then 0 else if j < wc.heap.size then 1 else 3 : Nat → Nat) j = 3 → wx.heap.size ≤ j := fun j hj => by
    by_cases e : j < wx.heap.size
    · simp only [if_pos e] at hj; rcases hj with h | h <;> cases h
    · omega
  exact ⟨good_zero _, good_zero _, _, q, q', e2.others (a := 3) (e := 3) h2.2 (fun j hj => .inl (e3 j (.inr hj))) (fun _ hj _ => hj) (by decide), h2.1, recol_in (P := fun c => c = 1 ∨ c = 3) e3 e2.bel.size, fun x hx => by cases hx⟩
end
end
section
open Go.RowKit
attribute [local irreducible] Calls

/-- Slots that are filled, or emptied. -/
def Puts (w : World) (a : Option Addr) (len : Nat) (F : Nat → Nat → Nat) (K : Nat → Bool) : Prop :=
  len = 0 ∨ ∃ B o, a = some ⟨B, o, none⟩ ∧ B < w.heap.size ∧ ∀ i, i < len → (F i 0 < 256 ∧ w.cell? ⟨B, o + i * 3, none⟩ = some (.int .u8 (F i 0))) ∧ (F i 1 < 256 ∧ w.cell? ⟨B, o + i * 3 + 1, none⟩ = some (.int .u8 (F i 1))) ∧ w.cell? ⟨B, o + i * 3 + 2, none⟩ = some (.bool (K i))
/-- Bytes. -/
def Byts (w : World) (a : Option Addr) (len : Nat) (F : Nat → Nat) : Prop :=
  len = 0 ∨ ∃ B o, a = some ⟨B, o, none⟩ ∧ B < w.heap.size ∧ ∀ i, i < len → F i < 256 ∧ w.cell? ⟨B, o + i, none⟩ = some (.int .u8 (F i))
set_option maxRecDepth 100000 in
set_option maxHeartbeats 4000000 in
theorem done_any {w0 w : World} {b : IB} {k : Nat} {q : List Int × List (Int × Int)} {m : IM} {R : List (Nat × TypeId × List Value)} (h : XB w0 w b k q m R) (hk : k ≤ 1000000)
    (a1 : Option Addr) (n1 c1 : Nat) (F1 : Nat → Nat → Nat) (K1 : Nat → Bool) (h1 : Puts w0 a1 n1 F1 K1) (hn1 : n1 ≤ 9223372036854775807) (a2 : Option Addr) (n2 c2 : Nat) (F2 : Nat → Nat) (h2 : Byts w0 a2 n2 F2) (hn2 : n2 ≤ 9223372036854775807) :
    Calls Tryd.prog 31 #[.pointer (some ⟨b.X, 0, none⟩), .slice a1 n1 c1, .slice a2 n2 c2] w fun e w' => e = .returned (.tuple #[]) ∧ ∃ M, XB w0 w' b (k + 30000) q M R := by
  have H1 := Lib.hid h1
  have H2 := Lib.hid h2
  have HX := Lib.hid h
  clear h h1 h2
  go_enter Tryd.func31, Tryd.ntmps31
  go_wp2
  go_loopw [6] (fun x wr => ∃ (i : Nat) (M : IM), i ≤ n1 ∧ i ≤ 60 ∧ x = .int .i64 i ∧ Hid (XB w0 wr b (k + 200 * i) q M R)) (fun x _ => n1 - (intOf x).toNat)
  case atStart => exact ⟨0, m, Nat.zero_le _, by omega, rfl, HX⟩
  case round =>
    obtain ⟨i, M, hi, hi60, rfl, hst⟩ := hrel
    clear HX
    by_cases hgo : i < n1 ∧ i < 60
    · obtain ⟨hlt, h60⟩ := hgo
      obtain ⟨B, o, rfl, hB, hc⟩ := H1.out.resolve_left (by omega)
      obtain ⟨⟨s256, hc0⟩, ⟨c256, hc1⟩, hc2⟩ := hc i hlt
      obtain ⟨s, hs⟩ : ∃ s, F1 i 0 = s := ⟨_, rfl⟩
      obtain ⟨cd, hcd⟩ : ∃ s, F1 i 1 = s := ⟨_, rfl⟩
      obtain ⟨kb, hkb⟩ : ∃ s, K1 i = s := ⟨_, rfl⟩
      rw [hs] at hc0 s256
      rw [hcd] at hc1 c256
      rw [hkb] at hc2
      have hbl := hst.out.bel
      have d0 : wr.cell? ⟨B, o + i * 3, none⟩ = some (.int .u8 (s : Int)) := (hbl.cell (p := ⟨B, o + i * 3, none⟩) hB).trans hc0
      have d1 : wr.cell? ⟨B, o + i * 3 + 1, none⟩ = some (.int .u8 (cd : Int)) := (hbl.cell (p := ⟨B, o + i * 3 + 1, none⟩) hB).trans hc1
      have d2 : wr.cell? ⟨B, o + i * 3 + 2, none⟩ = some (.bool kb) := (hbl.cell (p := ⟨B, o + i * 3 + 2, none⟩) hB).trans hc2
      have i00 : (0 : Int) ≤ i := by omega
      have i01 : (i : Int) < n1 := by omega
      have i02 : (i : Int) < 60 := by omega
      have s0_ : (0 : Int) ≤ s := by omega
      have s1_ : (s : Int) ≤ 255 := by omega
      have c0_ : (0 : Int) ≤ cd := by omega
      have c1_ : (cd : Int) ≤ 255 := by omega
      obtain ⟨c4, hc4⟩ : ∃ c, cd % 4 = c := ⟨_, rfl⟩
      have e4 : (cd : Int) % 4 = (c4 : Int) := by omega
      have c40 : (0 : Int) ≤ c4 := by omega
      have c44 : (c4 : Int) < 4 := by omega
      clear hc hc0 hc1 hc2 hs hcd hkb hbl s256 c256 hB hc4
      cases kb
      · have HC := Lib.hid (fun n => xb_put (hst.out.below (fb_drewN (Below.refl _ wr) n)) (by omega) (s : Int) (c4 : Int))
        clear hst
        go_upto_region 5 with fail
        refine wp_region_drewN_tail 14 (by kernel_rfl) (by kernel_rfl) ?_
        simp only [List.take_succ_cons, List.take_zero, List.drop_succ_cons, List.drop_zero]
        repeat (go_big_quiet_step (fail))
        refine wpQuiet_nil ?_
        intro _ hw'
        obtain ⟨nq, hw''⟩ := hw'
        subst hw''
        go_wp2_with (go_at_call 18; refine (HC.out _).mono ?_; rintro e w1 ⟨rfl, hN⟩; have HN := Lib.hid hN; clear hN)
        go_roundw
        case rel => exact ⟨i + 1, _, by omega, by omega, by go_num, Lib.hid (HN.out.mono (by omega))⟩
        case measure => simp [intOf]; omega
      · have HC := Lib.hid (xb_take hst.out (by omega) (s : Int))
        clear hst
        go_wp2_with (go_at_call 11; refine HC.out.mono ?_; rintro e w1 ⟨rfl, hN⟩; have HN := Lib.hid hN; clear hN)
        go_roundw
        case rel => exact ⟨i + 1, _, by omega, by omega, by go_num, Lib.hid (HN.out.mono (by omega))⟩
        case measure => simp [intOf]; omega
    · have HX1 := Lib.hid (hst.out.mono (n := k + 12000) (by omega))
      obtain ⟨wa, rfl⟩ : ∃ wo : World, wo = wr := ⟨_, rfl⟩
      have hend : i = n1 ∨ (i = 60 ∧ i < n1) := by omega
      clear hst hgo
      rcases hend with rfl | ⟨rfl, hlt⟩
      all_goals
        go_wp2
        go_loopw [7] (fun x wr => ∃ (j : Nat) (M : IM), j ≤ n2 ∧ j ≤ 60 ∧ x = .int .i64 j ∧ Hid (XB w0 wr b (k + 12000 + 200 * j) q M R)) (fun x _ => n2 - (intOf x).toNat)
        case atStart => exact ⟨0, M, Nat.zero_le _, by omega, rfl, HX1⟩
        case round =>
          obtain ⟨j, M2, hj, hj60, rfl, hst⟩ := hrel
          clear HX1
          by_cases hgo : j < n2 ∧ j < 60
          · obtain ⟨hjt, hj6⟩ := hgo
            obtain ⟨B, o, rfl, hB, hc⟩ := H2.out.resolve_left (by omega)
            obtain ⟨s256, hc0⟩ := hc j hjt
            obtain ⟨s, hs⟩ : ∃ s, F2 j = s := ⟨_, rfl⟩
            rw [hs] at hc0 s256
            have d0 : wr.cell? ⟨B, o + j, none⟩ = some (.int .u8 (s : Int)) := (hst.out.bel.cell (p := ⟨B, o + j, none⟩) hB).trans hc0
            have HC := Lib.hid (xb_touch hst.out (by omega) (s : Int))
            have i00 : (0 : Int) ≤ j := by omega
            have i01 : (j : Int) < n2 := by omega
            have i02 : (j : Int) < 60 := by omega
            have s0_ : (0 : Int) ≤ s := by omega
            have s1_ : (s : Int) ≤ 255 := by omega
            clear hst hc hc0 hs s256 hB
            go_wp2_with (go_at_call 13; refine HC.out.mono ?_; rintro e w1 ⟨rfl, hN⟩; have HN := Lib.hid hN; clear hN)
            go_roundw
            case rel => exact ⟨j + 1, _, by omega, by omega, by go_num, Lib.hid (HN.out.mono (by omega))⟩
            case measure => simp [intOf]; omega
          · have HN := Lib.hid (hst.out.mono (n := k + 30000) (by omega))
            have hend : j = n2 ∨ (j = 60 ∧ j < n2) := by omega
            clear hst hgo
            rcases hend with rfl | ⟨rfl, hlt2⟩
            all_goals
              go_wp2
              go_end0
              exact ⟨rfl, _, HN.out⟩
end
section
open Go.RowKit

theorem cards_on {w wx wa wc wd : World} {u : Value} {vs : List Value} {L : List (List (Int × Int))} (h : POut w wx u vs L) (ha : Below wx.heap.size wx wa) (hm : Moved wa wc (fun j => (fun j => if j < wx.heap.size then 0 else 1 : Nat → Nat) j = 1)) (hd : Below wc.heap.size wc wd) : CardsAt wd (rowsOf u vs) u vs L := by
  have hc := h.cards
  have lt : ∀ k, rowsOf u vs k → k < wx.heap.size := fun k hk => by
    rcases hk with hk | ⟨i, hi, hk⟩
    · exact (World.ownsRow.lt h.row k hk).2
    · exact (World.ownsRow.lt (h.each i (by rw [← h.len]; exact hi)) k hk).2
  refine hc.block fun k hk => ?_
  have h1 := lt k hk
  have h2 := ha.size
  have h3 := hm.size
  rw [hd.block k (by omega), hm.block k (by omega) (fun e => by dsimp only at e; rw [if_pos h1] at e; cases e), ha.block k h1]
theorem own_col {T x j : Nat} (h : ownT T none none j) (hx : x ≤ T) : (fun j => if j < x then 0 else if j < T then 1 else 3 : Nat → Nat) j = 3 := by
  have : j = T := by
    rcases h with h | h | h
    · exact h
    · cases h
    · cases h
  subst this
  dsimp only
  rw [if_neg (by omega), if_neg (Nat.lt_irrefl _)]
theorem XY.held {wx w : World} {k n BH : Nat} {t : TypeId} {b f : IB} {m mf : IM} {H : List Int} (h : XY wx w b k m f n mf [(BH, t, H.map (Value.int .i64))]) (hB : wx.heap.size ≤ BH) (s : Nat) (v : Int) : XY wx (w.setCell ⟨BH, s, none⟩ (.int .i64 v)) b k m f n mf [(BH, t, (H.set s v).map (Value.int .i64))] := by
  rw [List.map_set]
  exact h.set hB (by simp) s _
theorem XY.die4 {wx w : World} {k n BD : Nat} {t : TypeId} {b f : IB} {m mf : IM} {R : List (Nat × TypeId × List Value)} {x0 x1 x2 x3 : Nat} (y0 y1 y2 y3 : Nat) (h : XY wx w b k m f n mf ((BD, t, uc [x0, x1, x2, x3]) :: R)) (hB : wx.heap.size ≤ BD) (hne : ∀ x ∈ R, x.1 ≠ BD) :
    XY wx ((((w.setCell ⟨BD, 0, none⟩ (.int .u64 y0)).setCell ⟨BD, 1, none⟩ (.int .u64 y1)).setCell ⟨BD, 2, none⟩ (.int .u64 y2)).setCell ⟨BD, 3, none⟩ (.int .u64 y3)) b k m f n mf ((BD, t, uc [y0, y1, y2, y3]) :: R) :=
  (((h.set hB hne 0 (.int .u64 y0)).set hB hne 1 (.int .u64 y1)).set hB hne 2 (.int .u64 y2)).set hB hne 3 (.int .u64 y3)
theorem XY.swap {wx w : World} {k n : Nat} {b f : IB} {m mf : IM} {x y z : Nat × TypeId × List Value} (h : XY wx w b k m f n mf [x, y, z]) : XY wx w b k m f n mf [y, x, z] :=
  h.less fun a ha => by
    rcases List.mem_cons.1 ha with rfl | ha
    · exact .tail _ (.head _)
    rcases List.mem_cons.1 ha with rfl | ha
    · exact .head _
    · exact .tail _ (.tail _ ha)
theorem ne2 {a b c : Nat} {t t' : TypeId} {vs vs' : List Value} (h1 : a ≠ c) (h2 : b ≠ c) : ∀ x ∈ [(a, t, vs), (b, t', vs')], x.1 ≠ c := fun x hx => by
  rcases List.mem_cons.1 hx with rfl | hx
  · exact h1
  rcases List.mem_cons.1 hx with rfl | hx
  · exact h2
  · cases hx
def dieP (v : Int) : Bool := decide (v = 2 ∨ v = 3)
def stP (v : Int) : Bool := decide (v = 3)
theorem put_H (abs : List (List (Int × Int))) (s c : Nat) (m : IM) (hs : s < 256) (hc : c < 4) : (putI abs (s : Int) (c : Int) m).H = m.H.set s (1 + (c : Int)) := by
  unfold putI
  rw [if_pos ⟨⟨by omega, by omega⟩, by omega, by omega⟩]
  show m.H.set (s : Int).toNat ((c : Int) + 1) = _
  rw [Int.toNat_natCast]
  congr 1; omega
theorem put_H' (abs : List (List (Int × Int))) (s : Nat) (v : Int) (m : IM) (hs : s < 256) (h0 : 0 < v) (h1 : v ≤ 40) : (putI abs (s : Int) (v - 1) m).H = m.H.set s v := by
  unfold putI
  rw [if_pos ⟨⟨by omega, by omega⟩, by omega, by omega⟩]
  show m.H.set (s : Int).toNat (v - 1 + 1) = _
  rw [Int.toNat_natCast]
  congr 1; omega
theorem take_H (abs : List (List (Int × Int))) (s : Nat) (m : IM) (hs : s < 256) : (takeI abs (s : Int) m).H = m.H.set s 0 := by
  unfold takeI
  rw [if_pos ⟨by omega, by omega⟩]
  show m.H.set (s : Int).toNat 0 = _
  rw [Int.toNat_natCast]
theorem card_H (s : Nat) (m : IM) (hs : s < 256) : cardI (s : Int) m = m.H.getD s 0 - 1 := by
  unfold cardI
  rw [if_pos ⟨by omega, by omega⟩, Int.toNat_natCast]
theorem abs_die (v : Int) : hasK (absOf abs3 (v - 1)) 17 = decide (v = 2 ∨ v = 3) := by
  by_cases h1 : v = 1
  · subst h1; rfl
  by_cases h2 : v = 2
  · subst h2; rfl
  by_cases h3 : v = 3
  · subst h3; rfl
  rw [decide_eq_false (by omega)]
  unfold absOf
  rw [if_neg (by have : abs3.length = 3 := rfl; omega)]; rfl
theorem abs_static (v : Int) : hasK (absOf abs3 (v - 1)) 22 = decide (v = 3) := by
  by_cases h1 : v = 1
  · subst h1; rfl
  by_cases h2 : v = 2
  · subst h2; rfl
  by_cases h3 : v = 3
  · subst h3; rfl
  rw [decide_eq_false (by omega)]
  unfold absOf
  rw [if_neg (by have : abs3.length = 3 := rfl; omega)]; rfl
theorem abs_none (v : Int) : hasK (absOf abs3 (v - 1)) 31 = false := by
  by_cases h1 : v = 1
  · subst h1; rfl
  by_cases h2 : v = 2
  · subst h2; rfl
  by_cases h3 : v = 3
  · subst h3; rfl
  unfold absOf
  rw [if_neg (by have : abs3.length = 3 := rfl; omega)]; rfl
theorem has_addN {S : List Nat} (h : wfB S) (i j : Nat) (hi : i < 256) : hasS (addI S (i : Int)) j = (decide (j = i) || hasS S j) := by
  unfold addI
  rw [if_pos (by omega), Int.toNat_natCast]
  exact has_add h i j hi
/-- A set of the slots from r on whose card is so. -/
def From (H : List Int) (P : Int → Bool) (r : Nat) (S : List Nat) : Prop := wfB S ∧ ∀ j, j < 256 → hasS S j = (decide (r ≤ j) && P (H.getD j 0))
theorem from_all {P : Int → Bool} {S : List Nat} {m : IM} {k : Nat} (hg : IGood abs3 m) (hk : 1 ≤ k ∧ k < 36) (hP : ∀ v, hasK (absOf abs3 (v - 1)) k = P v) (h : From m.H P 0 S) : m.Z k = S := by
  refine ext_has (hg.wf k hk.2) h.1 fun j hj => ?_
  rw [hg.has k hk.1 hk.2 j hj, hP, h.2 j hj, decide_eq_true (Nat.zero_le _), Bool.true_and]
theorem from_top (H : List Int) (P : Int → Bool) : From H P 256 [0, 0, 0, 0] := ⟨wf_zero, fun j hj => by rw [has_zero, decide_eq_false (by omega), Bool.false_and]⟩
theorem from_add {H : List Int} {P : Int → Bool} {s : Nat} {S : List Nat} (h : From H P (s + 1) S) (hs : s < 256) (hp : P (H.getD s 0) = true) : From H P s (addI S (s : Int)) := by
  refine ⟨wf_addI h.1 _, fun j hj => ?_⟩
  rw [has_addN h.1 s j hs, h.2 j hj]
  by_cases e : j = s
  · subst e; rw [hp]; simp
  · rw [decide_eq_false e, Bool.false_or]
    congr 1
    rw [Bool.eq_iff_iff]; simp only [decide_eq_true_eq]; omega
theorem from_same {H : List Int} {P : Int → Bool} {s : Nat} {S : List Nat} (h : From H P (s + 1) S) (hp : P (H.getD s 0) = false) : From H P s S := by
  refine ⟨h.1, fun j hj => ?_⟩
  rw [h.2 j hj]
  by_cases e : j = s
  · subst e; rw [hp]; simp
  · congr 1
    rw [Bool.eq_iff_iff]; simp only [decide_eq_true_eq]; omega
/-- What slots from r on hold is there. -/
def Half (H : List Int) (r : Nat) (m : IM) : Prop := ∀ j, j < 256 → m.H.getD j 0 = if r ≤ j then H.getD j 0 else 0
theorem half_top (H : List Int) : Half H 256 M0 := fun j hj => by
  rw [if_neg (by omega)]
  show (List.replicate 256 (0 : Int)).getD j 0 = 0
  rw [List.getD_eq_getElem?_getD, List.getElem?_replicate]
  split <;> rfl
theorem half_put {H : List Int} {s : Nat} {m : IM} {abs : List (List (Int × Int))} (h : Half H (s + 1) m) (hl : m.H.length = 256) (hs : s < 256) (h0 : 0 < H.getD s 0) (h1 : H.getD s 0 ≤ 40) : Half H s (putI abs (s : Int) (H.getD s 0 - 1) m) := fun j hj => by
  rw [put_H' _ _ _ _ hs h0 h1, getD_setI _ _ _ _ (by omega)]
  by_cases e : s = j
  · subst e; simp
  · rw [if_neg e, h j hj]
    by_cases e2 : s + 1 ≤ j
    · rw [if_pos e2, if_pos (by omega)]
    · rw [if_neg e2, if_neg (by omega)]
theorem half_same {H : List Int} {s : Nat} {m : IM} (h : Half H (s + 1) m) (h0 : H.getD s 0 = 0) : Half H s m := fun j hj => by
  rw [h j hj]
  by_cases e : s = j
  · subst e; rw [if_neg (by omega), if_pos (Nat.le_refl _), h0]
  · by_cases e2 : s + 1 ≤ j
    · rw [if_pos e2, if_pos (by omega)]
    · rw [if_neg e2, if_neg (by omega)]
theorem half_all {H : List Int} {P : Int → Bool} {S : List Nat} {m : IM} (h : Half H 0 m) (hS : From H P 0 S) : From m.H P 0 S :=
  ⟨hS.1, fun j hj => by rw [hS.2 j hj, h j hj, if_pos (Nat.zero_le _)]⟩
theorem hav17 (M : IM) : havingI 3 2 M = M.Z 17 := by unfold havingI; rw [show kx 3 2 = 17 from by decide]; rfl
theorem hav22 (M : IM) : havingI 4 0 M = M.Z 22 := by unfold havingI; rw [show kx 4 0 = 22 from by decide]; rfl
theorem hav31 (M : IM) : havingI 5 2 M = M.Z 31 := by unfold havingI; rw [show kx 5 2 = 31 from by decide]; rfl
theorem finds_sets {abs : List (List (Int × Int))} {m : IM} {D S : List Nat} (ha : abs = abs3) (hg : IGood abs m) (hD : From m.H dieP 0 D) (hS : From m.H stP 0 S) : havingI 3 2 m = D ∧ havingI 4 0 m = S ∧ havingI 5 2 m = [0, 0, 0, 0] := by
  subst ha
  rw [hav17, hav22, hav31]
  exact ⟨from_all hg (by decide) abs_die hD, from_all hg (by decide) abs_static hS, from_all (P := fun _ => false) hg (by decide) abs_none ⟨wf_zero, fun j hj => by rw [has_zero, Bool.and_false]⟩⟩
end
end Go.Proofs.YtcgadmeagbcbnaaDoor
