/- The walk of a trail's Back. No condition. -/
import Derived.Test.YtcgadmeagbcbnaaDoorTrailSince
import Derived.Test.YtcgadmeagbcbnaaDoorTrailPlain
import Derived.Lib.SliceRun
namespace Go.Proofs.YtcgadmeagbcbnaaDoor
open Go.RowKit Go.Shelf
attribute [local go_sem] Oper.semAt_some

theorem inQ_normal {Q : Exit → Act → World → Prop} {a : Act} {w : World} : inQ Q .normal a w = Q .normal a w := rfl
theorem cells_ne {W : World} {r b : Nat} {o : Obj} {cs : Array Value} {e : TypeId} {f : Nat × Nat} (hr : W.heap[r]? = some o) (ho : o.isCells = false) (hb : W.heap[b]? = some (.cells cs e f)) : b ≠ r := fun e => by
  subst e; rw [hb] at hr; injection hr with hr; rw [← hr] at ho; cases ho
section
variable {w W : World} {base T : Nat} {ao bo : Option Addr} {ca cb : Nat} {cs : List Int} {hs : List (Int × Int)}
theorem own_keptN {e : TypeId} {size : Nat} {v : Value} {n : Nat} {xs : List Value} (h : W.ownsRow base e size v n xs) {W' : World} {row : Option Nat} (hg : W.grownBy W' row) (hr : ∀ r, row = some r → ∃ o : Obj, W.heap[r]? = some o ∧ o.isCells = false) : W'.ownsRow base e size v n xs := by
  refine h.kept hg ?_
  rcases h.2 with ⟨rfl, _⟩ | ⟨g, cap, cur, rfl, hb, hh, _⟩
  · exact .inl rfl
  · refine .inr (fun e => ?_)
    obtain ⟨o, ho, hc⟩ := hr g (by rw [← e]; rfl)
    exact cells_ne ho hc hh rfl
theorem TrAt.keptN (h : TrAt W base T ao bo ca cb cs hs) {W' : World} {row : Option Nat} (hg : W.grownBy W' row) (hr : ∀ r, row = some r → ∃ o : Obj, W.heap[r]? = some o ∧ o.isCells = false) : TrAt W' base T ao bo ca cb cs hs :=
  ⟨h.hT, (hg.block T h.lt (fun e => by obtain ⟨o, ho, hc⟩ := hr T e.symm; exact cells_ne ho hc h.blk rfl)).trans h.blk, own_keptN h.cells hg hr, own_keptN h.chs hg hr⟩
/-- Between two rounds of Back. -/
structure BS (w : World) (base T m : Nat) (ao bo : Option Addr) (ca cb : Nat) (cs : List Int) (hs : List (Int × Int)) (k : Nat) (W : World) : Prop where
  tr : TrAt W base T ao bo ca cb (backs cs ((hs.drop m).reverse.take k)) hs
  b0 : Boxed W w.heap.size 24 (.pointer (some ⟨T, 0, none⟩))
  b1 : Boxed W (w.heap.size + 1) 24 (.pointer (some ⟨T, 0, none⟩))
  b2 : Boxed W (w.heap.size + 1 + 1) 3 (.int .i64 (m : Int))
  mv : Moved w W (ownT T ao bo)
theorem BS.kept {m k n : Nat} (h : BS w base T m ao bo ca cb cs hs k W) {W' : World} {row : Option Nat} (hn : w.heap.size ≤ n) (hg : W.grownBy W' row) (hr : ∀ r, row = some r → n ≤ r ∧ ∃ o : Obj, W.heap[r]? = some o ∧ o.isCells = false) : BS w base T m ao bo ca cb cs hs k W' :=
  ⟨h.tr.keptN hg (fun r e => (hr r e).2), ownFrom_boxed (fun _ : Unit => _) () W W' row h.b0 hg hr, ownFrom_boxed (fun _ : Unit => _) () W W' row h.b1 hg hr, ownFrom_boxed (fun _ : Unit => _) () W W' row h.b2 hg hr,
    h.mv.trans (S' := fun k => n ≤ k) ⟨hg.os, hg.tape, hg.output, hg.size, fun j hj hS => hg.block j hj (fun e => hS (hr j e.symm).1)⟩ (fun _ hk => .inr (Nat.le_trans hn hk))⟩
theorem BS.since {m k : Nat} (h : BS w base T m ao bo ca cb cs hs k W) : SinceP (w.heap.size + 1) (w.heap.size + 1 + 1) T m bo cb hs W :=
  ⟨h.b1, h.b2, h.tr.c1, fun _ hk => let ⟨g, e, _, _, _, c, d⟩ := h.tr.ch hk; ⟨g, e, c, d⟩⟩

theorem box_other {B : Nat} {t : TypeId} {v u : Value} {a : Addr} (h : Boxed W B t v) (hne : B ≠ a.block) : Boxed (W.setCell a u) B t v := (heap_setCell_other W a B u hne).trans h
theorem TrAt.set {g : Nat} (h : TrAt W base T (some ⟨g, 0, none⟩) bo ca cb cs hs) (n : Nat) (v : Int) : TrAt (W.setCell ⟨g, n, none⟩ (.int .i64 v)) base T (some ⟨g, 0, none⟩) bo ca cb (cs.set n v) hs := by
  have hne : T ≠ g := fun e => h.neA (by rw [e]; rfl)
  refine ⟨h.hT, ?_, ?_, ownsRow_setCell_other h.chs (by rw [own_block]; exact fun e => h.neAB rfl e) _⟩
  · rw [List.length_set, heap_setCell_other _ _ _ _ hne]; exact h.blk
  · rw [List.length_set, List.map_set]; exact (World.ownsRow.stored h.cells n (.int .i64 v)).1
theorem TrAt.drewN (h : TrAt W base T ao bo ca cb cs hs) (n : Nat) : TrAt (W.drewN n) base T ao bo ca cb cs hs := ⟨h.hT, h.blk, h.cells, h.chs⟩
theorem keepsO_drewN (W : World) (n : Nat) : KeepsOthers W (W.drewN n) := ⟨Nat.le_refl _, fun _ _ h _ => h⟩
theorem keepsO_setCells (g : Nat) : ∀ (vs : List Value) (o : Nat) (W : World), KeepsOthers W (W.setCells g o vs) := by
  intro vs
  induction vs with
  | nil => intro o W; exact KeepsOthers.refl _
  | cons v r ih => intro o W; exact (KeepsOthers.setCell W ⟨g, o, none⟩ v).trans (ih (o + 1) _)
theorem BS.drewN {m k : Nat} (h : BS w base T m ao bo ca cb cs hs k W) (n : Nat) : BS w base T m ao bo ca cb cs hs k (W.drewN n) :=
  ⟨h.tr.drewN n, h.b0, h.b1, h.b2, ⟨h.mv.os, h.mv.tape, h.mv.output, h.mv.size, h.mv.block⟩⟩
theorem BS.set {m k g : Nat} (h : BS w base T m (some ⟨g, 0, none⟩) bo ca cb cs hs k W) (hg : g < w.heap.size) (i : Nat) (v : Int) (hn : backs cs ((hs.drop m).reverse.take (k + 1)) = (backs cs ((hs.drop m).reverse.take k)).set i v) :
    BS w base T m (some ⟨g, 0, none⟩) bo ca cb cs hs (k + 1) (W.setCell ⟨g, i, none⟩ (.int .i64 v)) :=
  ⟨by rw [hn]; exact h.tr.set i v, box_other h.b0 (by simp; omega), box_other h.b1 (by simp; omega), box_other h.b2 (by simp; omega),
    h.mv.trans (Moved.of_set W ⟨g, i, none⟩ _ (S := fun k => k = g) rfl) (fun _ hk => .inl (.inr (.inl (by rw [hk]; rfl))))⟩

theorem TrAt.capA (h : TrAt W base T ao bo ca cb cs hs) : cs.length ≤ ca := by
  rcases h.cells.2 with ⟨he, h0⟩ | ⟨g, cap, cur, hv, _, _, hc, _⟩
  · omega
  · injection hv with _ _ e; omega
theorem TrAt.capB (h : TrAt W base T ao bo ca cb cs hs) : hs.length ≤ cb := by
  rcases h.chs.2 with ⟨he, h0⟩ | ⟨g, cap, cur, hv, _, _, hc, _⟩
  · omega
  · injection hv with _ _ e; omega
/-- The built-in clear of the cells from left on. -/
theorem clear_run {g : Nat} (h : TrAt W base T (some ⟨g, 0, none⟩) bo ca cb cs hs) (left q : Nat) (hl : cs.length = left + q) (hq : 1 ≤ q) :
    ∀ ty n c, n = q → (Builtin.clear_ #[34] ty #[.slice (some ⟨g, left, none⟩) n c]).run Tryd.prog W = .ok (.tuple #[]) (W.setCells g left (List.replicate q (.int .i64 0))) := by
  intro ty n c hn
  subst hn
  refine Lib.run_clear_slice W 34 3 ty (.int .i64 0) Tryd.underlying34 (fun w => by kernel_rfl) rfl rfl g left n c hq (fun j hj => ?_) (fun j hj => ?_)
  · obtain ⟨g', e, _, _, _, hc, _⟩ := h.cell (i := left + j) (by omega)
    injection e with e; injection e with e; subst e
    rw [hc]; rfl
  · obtain ⟨g', e, _, _, _, _, hf⟩ := h.cell (i := left + j) (by omega)
    injection e with e; injection e with e; subst e
    exact hf
theorem setCells_at (g : Nat) : ∀ (vs : List Value) (o : Nat) (W : World) (cur : Array Value) (e : TypeId), W.heap[g]? = some (.cells cur e (0, 0)) →
    ∃ cur' : Array Value, (W.setCells g o vs).heap[g]? = some (.cells cur' e (0, 0)) ∧ cur'.size = cur.size ∧ ∀ j, j < o → cur'[j]? = cur[j]? := by
  intro vs
  induction vs with
  | nil => intro o W cur e h; exact ⟨cur, h, rfl, fun _ _ => rfl⟩
  | cons v r ih =>
    intro o W cur e h
    obtain ⟨c2, h1, h2, h3⟩ := ih (o + 1) _ _ e (heap_setCell_same W g o cur e v h)
    refine ⟨c2, h1, by rw [h2]; simp, fun j hj => ?_⟩
    rw [h3 j (by omega), Array.getElem?_setIfInBounds_ne (by omega)]
theorem setCells_moved (g : Nat) : ∀ (vs : List Value) (o : Nat) (W : World) (S : Nat → Prop), S g → Moved W (W.setCells g o vs) S := by
  intro vs
  induction vs with
  | nil => intro o W S _; exact Moved.refl _ _
  | cons v r ih => intro o W S h; exact (Moved.of_set W ⟨g, o, none⟩ v (S := S) h).trans (ih (o + 1) _ S h) (fun k hk => .inl hk)
theorem TrAt.cut {g : Nat} (h : TrAt W base T (some ⟨g, 0, none⟩) bo ca cb cs hs) (left q : Nat) (hl : cs.length = left + q) (vs : List Value) :
    TrAt ((W.setCells g left vs).setCell ⟨T, 0, none⟩ (.slice (some ⟨g, 0, none⟩) left ca)) base T (some ⟨g, 0, none⟩) bo ca cb (cs.take left) hs := by
  have hne : T ≠ g := fun e => h.neA (by rw [e]; rfl)
  have hmv := setCells_moved g vs left W (fun k => k = g) rfl
  have hlen : (cs.take left).length = left := by rw [List.length_take]; omega
  have hT : (W.setCells g left vs).heap[T]? = W.heap[T]? := hmv.block T h.lt hne
  rcases h.cells with ⟨h1, c2 | ⟨ga, capa, cura, hva, hga, hha, hna, hma, hsa, hta⟩⟩
  · exact absurd c2.1 (by simp)
  injection hva with e1 e2 e3; injection e1 with e1; injection e1 with e1; subst e1; subst e3
  obtain ⟨cur', k1, k2, k3⟩ := setCells_at g vs left W cura _ hha
  refine ⟨h.hT, ?_, ⟨by simp, .inr ⟨g, ca, cur', by rw [hlen], hga, ?_, by rw [hlen]; omega, hma, by rw [k2]; exact hsa, ?_⟩⟩, ?_⟩
  · rw [hlen, heap_setCell_same _ _ _ _ _ _ (hT.trans h.blk)]; simp
  · rw [heap_setCell_other _ _ _ _ (Ne.symm hne)]; exact k1
  · rw [hlen, Nat.mul_one]
    apply List.ext_getElem?
    intro j
    rw [List.getElem?_take]
    split
    · rename_i hj
      have hta' : (cura.toList.take (cs.length * 1))[j]? = (cs.map (Value.int .i64))[j]? := by rw [hta]
      rw [List.getElem?_take, if_pos (by omega)] at hta'
      rw [Array.getElem?_toList, k3 j hj]
      rw [Array.getElem?_toList] at hta'
      rw [hta']
      simp [hj]
    · rename_i hj
      rw [List.getElem?_eq_none]; simp; omega
  · have hch : (W.setCells g left vs).ownsRow base 97 2 (.slice bo hs.length cb) hs.length (flat hs) := by
      refine ⟨h.chs.1, ?_⟩
      rcases h.chs.2 with c | ⟨gb, capb, curb, hvb, hgb, hhb, r⟩
      · exact .inl c
      · have hneb : gb ≠ g := fun e => by
          injection hvb with hb _ _
          exact h.neAB (g := g) rfl (by rw [hb, e]; rfl)
        exact .inr ⟨gb, capb, curb, hvb, hgb, (hmv.block gb (Array.getElem?_eq_some_iff.1 hhb).1 hneb).trans hhb, r⟩
    exact ownsRow_setCell_other hch (by rw [own_block]; exact h.neB) _
theorem BS.cut {m k g : Nat} (h : BS w base T m (some ⟨g, 0, none⟩) bo ca cb cs hs k W) (hg : g < w.heap.size) (left q : Nat) (hl : (backs cs ((hs.drop m).reverse.take k)).length = left + q) (hn : backs cs ((hs.drop m).reverse.take (k + 1)) = (backs cs ((hs.drop m).reverse.take k)).take left) (hT : T < w.heap.size) :
    BS w base T m (some ⟨g, 0, none⟩) bo ca cb cs hs (k + 1) ((W.setCells g left (List.replicate q (.int .i64 0))).setCell ⟨T, 0, none⟩ (.slice (some ⟨g, 0, none⟩) left ca)) := by
  have hmv := setCells_moved g (List.replicate q (.int .i64 0)) left W (fun k => k = g) rfl
  have keep : ∀ {B : Nat} {t : TypeId} {v : Value}, w.heap.size ≤ B → Boxed W B t v → Boxed ((W.setCells g left (List.replicate q (.int .i64 0))).setCell ⟨T, 0, none⟩ (.slice (some ⟨g, 0, none⟩) left ca)) B t v := fun {B t v} hB hb =>
    box_other (show Boxed (W.setCells g left (List.replicate q (.int .i64 0))) B t v from (hmv.block B hb.lt (by omega)).trans hb) (by show B ≠ T; omega)
  exact ⟨by rw [hn]; exact h.tr.cut left q hl _, keep (by omega) h.b0, keep (by omega) h.b1, keep (by omega) h.b2,
    (h.mv.trans hmv (fun _ hk => .inl (.inr (.inl (by rw [hk]; rfl))))).trans (Moved.of_set _ ⟨T, 0, none⟩ _ (S := fun k => k = T) rfl) (fun _ hk => .inl (.inl hk))⟩

theorem flat_takeV (hs : List (Int × Int)) (m : Nat) : flat (hs.take m) = (flat hs).take (m * 2) := (flat_take hs m).symm
theorem TrAt.cutB (h : TrAt W base T ao bo ca cb cs hs) (m : Nat) (hm : m ≤ hs.length) : TrAt (W.setCell ⟨T, 1, none⟩ (.slice bo m cb)) base T ao bo ca cb cs (hs.take m) := by
  have hlen : (hs.take m).length = m := by rw [List.length_take]; omega
  refine ⟨h.hT, ?_, ownsRow_setCell_other h.cells (by rw [own_block]; exact h.neA) _, ?_⟩
  · rw [hlen, heap_setCell_same _ _ _ _ _ _ h.blk]; simp
  · refine ⟨by rw [flat_len], ?_⟩
    rcases h.chs.2 with ⟨hv, h0⟩ | ⟨gb, capb, curb, hvb, hgb, hhb, hnb, hmb, hsb, htb⟩
    · have : m = 0 := by omega
      subst this
      injection hv with e1 e2 e3
      subst e1 e3
      exact .inl ⟨by simp, by simp⟩
    · injection hvb with e1 e2 e3
      subst e1 e3
      have hne : gb ≠ T := fun e => h.neB (by rw [e]; rfl)
      refine .inr ⟨gb, cb, curb, by rw [hlen], hgb, by rw [heap_setCell_other _ _ _ _ hne]; exact hhb, by omega, hmb, hsb, ?_⟩
      rw [hlen, flat_takeV, ← htb, List.take_take]
      congr 1; omega

theorem tback_nil (m : Int) (w : World) : Calls Tryd.prog 17 #[.pointer none, .int .i64 m] w fun e w' => e = .returned (.int .i64 1) ∧ Below w.heap.size w w' := by
  refine (callsIn_wide (n := 5)).1 ?_
  refine callsIn_of_wp_marks Tryd.func17 rfl trivial ?_ rfl
  simp only [Tryd.ntmps17, List.size_toArray, List.length_cons, List.length_nil, Nat.reduceAdd, Nat.reduceSub, Array.replicate_succ, Array.replicate_zero, List.push_toArray, List.append_toArray, List.nil_append, List.cons_append]
  gi_wp2
  exact ⟨.int .i64 1, by simp [results, Tryd.f17, go_sem], rfl, (Below.refl _ _).alloc (Nat.le_refl _) _⟩
theorem tback_arg (h : TrAt w base T ao bo ca cb cs hs) (m : Int) (hm : ¬ (0 ≤ m ∧ m ≤ hs.length)) : Calls Tryd.prog 17 #[.pointer (some ⟨T, 0, none⟩), .int .i64 m] w fun e w' => e = .returned (.int .i64 2) ∧ Below w.heap.size w w' := by
  have hM := Lib.hid (tmark_any (h.below ((Below.refl _ w).alloc (Nat.le_refl _) (.cells #[.pointer (some ⟨T, 0, none⟩)] 24))))
  by_cases h0 : m < 0
  · clear hm h
    refine (callsIn_wide (n := 5)).1 ?_
    refine callsIn_of_wp_marks Tryd.func17 rfl trivial ?_ rfl
    simp only [Tryd.ntmps17, List.size_toArray, List.length_cons, List.length_nil, Nat.reduceAdd, Nat.reduceSub, Array.replicate_succ, Array.replicate_zero, List.push_toArray, List.append_toArray, List.nil_append, List.cons_append]
    gi_wp2
    refine ⟨trivial, ?_⟩
    gi_wp2
    exact ⟨.int .i64 2, by simp [results, Tryd.f17, go_sem], rfl, (Below.refl _ _).alloc (Nat.le_refl _) _⟩
  · have h1 : (hs.length : Int) < m := by omega
    have h0' : 0 ≤ m := by omega
    clear hm h h0
    refine (callsIn_wide (n := 5)).1 ?_
    refine callsIn_of_wp_marks Tryd.func17 rfl trivial ?_ rfl
    simp only [Tryd.ntmps17, List.size_toArray, List.length_cons, List.length_nil, Nat.reduceAdd, Nat.reduceSub, Array.replicate_succ, Array.replicate_zero, List.push_toArray, List.append_toArray, List.nil_append, List.cons_append]
    gi_wp2_with (refine ⟨trivial, ?_⟩; gi_at_call 16; refine (callsIn_wide.2 hM.out).mono ?_; rintro e w' ⟨rfl, rfl⟩)
    exact ⟨.int .i64 2, by simp [results, Tryd.f17, go_sem], rfl, (Below.refl _ _).alloc (Nat.le_refl _) _⟩

theorem since_alloc {Bt Bm m : Nat} (W : World) (o : Obj) : KpOf (SinceP Bt Bm T m bo cb hs) W (W.alloc o) := fun h => h.below ((Below.refl _ W).alloc (Nat.le_refl _) o)
theorem bs_start (h : TrAt w base T ao bo ca cb cs hs) (m : Nat) : BS w base T m ao bo ca cb cs hs 0 (((w.alloc (.cells #[.pointer (some ⟨T, 0, none⟩)] 24)).alloc (.cells #[.pointer (some ⟨T, 0, none⟩)] 24)).alloc (.cells #[.int .i64 (m : Int)] 3)) := by
  have hb : Below w.heap.size w (((w.alloc (.cells #[.pointer (some ⟨T, 0, none⟩)] 24)).alloc (.cells #[.pointer (some ⟨T, 0, none⟩)] 24)).alloc (.cells #[.int .i64 (m : Int)] 3)) := fb_alloc (fb_alloc (fb_alloc (Below.refl _ _) _) _) _
  have b0 := Boxed.new w 24 (.pointer (some ⟨T, 0, none⟩))
  have b1 := Boxed.new (w.alloc (.cells #[.pointer (some ⟨T, 0, none⟩)] 24)) 24 (.pointer (some ⟨T, 0, none⟩))
  have b2 := Boxed.new ((w.alloc (.cells #[.pointer (some ⟨T, 0, none⟩)] 24)).alloc (.cells #[.pointer (some ⟨T, 0, none⟩)] 24)) 3 (.int .i64 (m : Int))
  simp only [World.size_alloc] at b1 b2
  exact ⟨by simpa [backs] using h.below hb, Boxed.alloc (Boxed.alloc b0 _) _, Boxed.alloc b1 _, b2, Moved.of_below hb _⟩
set_option maxRecDepth 100000 in
set_option maxHeartbeats 2000000 in
theorem tback_any (h : TrAt w base T ao bo ca cb cs hs) (m : Nat) (hm : m ≤ hs.length) (hok : okH cs hs) (hcs : cs.length ≤ 1048576) (hlen : hs.length < 1099511627776) :
    Calls Tryd.prog 17 #[.pointer (some ⟨T, 0, none⟩), .int .i64 m] w fun e w' => e = .returned (.int .i64 0) ∧ TStep w w' base T ao bo (was cs hs m) (hs.take m) := by
  have hM := Lib.hid (tmark_any (h.below ((Below.refl _ w).alloc (Nat.le_refl _) (.cells #[.pointer (some ⟨T, 0, none⟩)] 24))))
  have H := Lib.hid h
  have OK := Lib.hid hok
  have hm' : (m : Int) ≤ hs.length := by omega
  clear h hok
  refine (callsIn_wide (n := 5)).1 ?_
  refine callsIn_of_wp_marks Tryd.func17 rfl trivial ?_ rfl
  simp only [Tryd.ntmps17, List.size_toArray, List.length_cons, List.length_nil, Nat.reduceAdd, Nat.reduceSub, Array.replicate_succ, Array.replicate_zero, List.push_toArray, List.append_toArray, List.nil_append, List.cons_append]
  gi_wp2_with (first
    | (refine ⟨trivial, ?_⟩; gi_at_call 16; refine (callsIn_wide.2 hM.out).mono ?_; rintro e w' ⟨rfl, rfl⟩)
    | (refine ⟨trivial, ?_⟩; gi_at_call 42; refine (callsIn_wide.2 (tsince_any _ _ _)).mono ?_; rintro e w' ⟨rfl, rfl⟩))
  have hbs := bs_start H.out m
  obtain ⟨W0, hW0⟩ : ∃ W0, (((w.alloc (.cells #[.pointer (some ⟨T, 0, none⟩)] 24)).alloc (.cells #[.pointer (some ⟨T, 0, none⟩)] 24)).alloc (.cells #[.int .i64 (m : Int)] 3)) = W0 := ⟨_, rfl⟩
  have hsz : W0.heap.size = w.heap.size + 1 + 1 + 1 := by rw [← hW0]; simp
  rw [hW0] at hbs ⊢
  clear hW0 hM
  have HSZ := Lib.hid hsz
  clear hsz
  refine wpIn_through_box (gf := 54) (lb := #[.pointer (some ⟨w.heap.size + 1, 0, none⟩), .pointer (some ⟨w.heap.size + 1 + 1, 0, none⟩)]) rfl (enters_of Tryd.func54 (by kernel_rfl) rfl) (w0 := W0) (Below.refl _ _)
    (tsince1 4 (by omega) (w.heap.size + 1) (w.heap.size + 1 + 1) T m bo cb hs hm hlen W0 hbs.since) (fun h k => kpOf_t h k) (fun W l o o' => kpOf_b (SinceP.onCells _ _ _ _ _ _ _) W l o o') since_alloc (fun _ => rfl)
    (BS w base T m ao bo ca cb cs hs) (fun k A B row hs' hg hr => hs'.kept (n := W0.heap.size) (by rw [HSZ.out]; omega) hg hr) (fun k W h => by rw [HSZ.out]; have := h.b2.lt; omega) hbs 5 97 (fun x => [.int .i64 x.1, .int .i64 x.2]) ?FR ?hfr ?assign ?body ?done
  case hfr =>
    intro x v
    simp
    rfl
  case assign =>
    intro l x W K hK
    have HK := Lib.hid hK
    clear hK
    gi_wp2
    exact HK.out
  case body =>
    intro l k x Bc W hx hbs' hBc hA
    obtain ⟨hok1, hnext⟩ := okR_at (okH_sfx OK.out m) hx
    have hlk : (backs cs ((hs.drop m).reverse.take k)).length ≤ 1048576 := Nat.le_trans (backs_len _ _) hcs
    have hbT := hbs'.tr
    have hTw : T < w.heap.size := H.out.lt
    have d0 := hbs'.b0.cell
    have d1 := hbT.c0
    have d3 := hbT.fr 0
    have hA0 := hA.cell 0
    have hA1 := hA.cell 1
    simp only [List.getElem?_cons_zero, List.getElem?_cons_succ] at hA0 hA1
    have hBcT : Bc ≠ T := by have := HSZ.out; omega
    obtain ⟨ck, hck⟩ : ∃ ck, backs cs ((hs.drop m).reverse.take k) = ck := ⟨_, rfl⟩
    rw [hck] at hok1 hnext hlk hbT d1
    have HX := Lib.hid (And.intro hnext (And.intro hbs' (And.intro hbT hA)))
    have HCK := Lib.hid hck
    clear hnext hbs' hbT hx hck
    rcases hok1 with ⟨p0, p1⟩ | ⟨p0, p1, p2⟩
    · obtain ⟨x0, x1⟩ := x
      obtain ⟨i, rfl⟩ := Int.eq_ofNat_of_zero_le (show 0 ≤ x0 from p0)
      have hi : i < ck.length := by have : ((i : Int)) < _ := p1; omega
      obtain ⟨g, rfl, hg, hgl, hgT, hcg, hfg⟩ := HX.out.2.2.1.cell hi
      have hgw : g < w.heap.size := (World.ownsRow.lt H.out.cells g rfl).2
      have hnx : backs cs ((hs.drop m).reverse.take (k + 1)) = (backs cs ((hs.drop m).reverse.take k)).set i x1 := by
        have h1 := HX.out.1
        have h2 := HX.out.2.2.2
        rw [h1, HCK.out]
        unfold undo1
        rw [if_pos p0]; rfl
      have hb2 := HX.out.2.1.set hgw i x1 hnx
      have HB2 := Lib.hid hb2
      clear p0 p1 hnx hb2
      have i0 : (0 : Int) ≤ i := by omega
      have i1 : (i : Int) < ck.length := by omega
      dsimp only at hA0 hA1 ⊢
      gi_wp2
      refine wpIn_round_drewN_tail 10 (by kernel_rfl) (by kernel_rfl) (by kernel_rfl) ?_
      simp only [List.take_succ_cons, List.take_zero, List.drop_succ_cons, List.drop_zero]
      repeat (go_big_quiet_step (fail))
      refine wpQuiet_nil ?_
      intro _ hw'
      obtain ⟨nq, hw''⟩ := hw'
      subst hw''
      go_wp2
      rw [inQ_normal]
      gi_wp2
      exact ⟨((KeepsOthers.setCell _ _ _).trans (keepsO_drewN _ _)).from _, fun _ => (HB2.out.drewN _).since, HB2.out.drewN _⟩
    · obtain ⟨x0, x1⟩ := x
      obtain rfl : x0 = -1 := p0
      obtain ⟨q, rfl⟩ := Int.eq_ofNat_of_zero_le (show 0 ≤ x1 by have : 1 ≤ x1 := p1; omega)
      have q0 : 1 ≤ q := by have : (1 : Int) ≤ (q : Int) := p1; omega
      have q1 : q ≤ ck.length := by have : (q : Int) ≤ _ := p2; omega
      obtain ⟨left, hleft⟩ : ∃ left : Nat, ck.length = left + q := ⟨ck.length - q, by omega⟩
      obtain ⟨g, rfl, hg, hgl, hgT, hcg, hfg⟩ := HX.out.2.2.1.cell (i := left) (by omega)
      have hgw : g < w.heap.size := (World.ownsRow.lt H.out.cells g rfl).2
      have hnx : backs cs ((hs.drop m).reverse.take (k + 1)) = (backs cs ((hs.drop m).reverse.take k)).take left := by
        rw [HX.out.1, HCK.out]
        unfold undo1
        rw [if_neg (by show ¬ (0 ≤ (-1 : Int)); omega), Int.toNat_natCast, hleft]; congr 1; omega
      have hcl := fun n ty c => clear_run (HX.out.2.2.1.drewN n) left q hleft q0 ty q c rfl
      have hq2 : ck.length - left = q := by omega
      have hcap : ck.length ≤ ca := HX.out.2.2.1.capA
      have HB2 := Lib.hid (fun n => (HX.out.2.1.drewN n).cut hgw left q (by rw [HCK.out]; exact hleft) hnx hTw)
      have hlq : (ck.length : Int) - (q : Int) = (left : Int) := by omega
      have l0 : (0 : Int) ≤ left := by omega
      have l1 : left ≤ ck.length := by omega
      have l2 : left ≤ ca := by omega
      have l3 : ¬ ca = left := by omega
      clear p1 p2 hnx hleft
      dsimp only at hA0 hA1 ⊢
      gi_wp2
      refine wpIn_round_drewN (by kernel_rfl) (by kernel_rfl) (by kernel_rfl) ?_
      repeat (go_big_quiet_step (fail))
      refine wpQuiet_nil ?_
      intro _ hw'
      obtain ⟨nq, hw''⟩ := hw'
      subst hw''
      rw [inQ_normal]
      have hcl2 := hcl nq
      clear hcl
      gi_wp2
      have hb2 := HB2.out nq
      obtain ⟨W2, hW2⟩ : ∃ W2, (W.drewN nq).setCells g left (List.replicate q (.int .i64 0)) = W2 := ⟨_, rfl⟩
      have hmv2 := setCells_moved g (List.replicate q (.int .i64 0)) left (W.drewN nq) (fun k => k = g) rfl
      have g0 : W2.cell? ⟨w.heap.size, 0, none⟩ = some (.pointer (some ⟨T, 0, none⟩)) := by
        rw [← hW2]
        exact (World.cell?_of_block (a := ⟨w.heap.size, 0, none⟩) (hmv2.block w.heap.size HX.out.2.1.b0.lt (by omega))).trans d0
      have hT2 : W2.heap[T]? = W.heap[T]? := by rw [← hW2]; exact hmv2.block T HX.out.2.2.1.lt (Ne.symm hgT)
      have g1 : W2.cell? ⟨T, 0, none⟩ = some (.slice (some ⟨g, 0, none⟩) ck.length ca) := (World.cell?_of_block (a := ⟨T, 0, none⟩) hT2).trans d1
      have g3 : W2.frozen? ⟨T, 0, none⟩ = false := (World.frozen?_of_block (a := ⟨T, 0, none⟩) hT2).trans d3
      have hko : KeepsOthers W W2 := by
        rw [← hW2]
        exact (keepsO_drewN W nq).trans (keepsO_setCells _ _ _ _)
      rw [hW2] at hb2 ⊢
      have HB3 := Lib.hid (And.intro hb2 hko)
      clear hb2 hW2 hmv2 hT2 hcl2 hko d0 d1 d3 hA0 hA1 hcg hfg
      refine wpIn_round_drewN_tail 9 (by kernel_rfl) (by kernel_rfl) (by kernel_rfl) ?_
      simp only [List.take_succ_cons, List.take_zero, List.drop_succ_cons, List.drop_zero]
      repeat (go_big_quiet_step (fail))
      refine wpQuiet_nil ?_
      intro _ hw'
      obtain ⟨nq2, hw''⟩ := hw'
      subst hw''
      go_wp2
      rw [inQ_normal]
      gi_wp2
      exact ⟨(HB3.out.2.trans ((KeepsOthers.setCell _ _ _).trans (keepsO_drewN _ _))).from _, fun _ => (HB3.out.1.drewN _).since, HB3.out.1.drewN _⟩
  case done =>
    intro D W hD hbs' hK
    have e1 : backs cs ((hs.drop m).reverse.take (hs.drop m).reverse.length) = was cs hs m := by rw [List.take_length]; rfl
    have hbT := hbs'.tr
    rw [e1] at hbT
    have hD2 : w.heap.size ≤ D := by have := HSZ.out; omega
    have d0 := hbs'.b0.cell
    have d1 := hbT.c1
    have d3 := hbT.fr 1
    have hcb := hbT.capB
    have m0 : (0 : Int) ≤ m := by omega
    have m1 : m ≤ cb := by omega
    have HX := Lib.hid (And.intro hbT (And.intro hbs'.mv (And.intro hK hD2)))
    clear e1 hbT hbs' hK hD hD2
    gi_wp2
    refine (wpIn_wide (n := 5)).2 ?_
    refine wp_region_drewN_tail 9 (by kernel_rfl) (by kernel_rfl) ?_
    simp only [List.take_succ_cons, List.take_zero, List.drop_succ_cons, List.drop_zero]
    repeat (go_big_quiet_step (fail))
    refine wpQuiet_nil ?_
    intro _ hw'
    obtain ⟨nq, hw''⟩ := hw'
    subst hw''
    go_wp2
    gi_wp2
    have hcut := (HX.out.1.cutB m hm).drewN nq
    have hKD : ((W.setCell ⟨T, 1, none⟩ (.slice bo m cb)).drewN nq).heap[D]? = some (.deferred (some [])) := (KeepsOthers.setCell W ⟨T, 1, none⟩ (.slice bo m cb)).same D _ HX.out.2.2.1 rfl
    refine ⟨by simp, .inl ⟨_, _, rfl, run_takeDeferred hKD, ?_⟩⟩
    refine ⟨.int .i64 0, by simp [results, Tryd.f17, go_sem], rfl, ao, bo, ca, cb, hcut.keptN (grownBy_putObj' _ D _) (fun r e => by cases e; exact ⟨_, hKD, rfl⟩), ?_, fun k hk => .inl hk⟩
    have mv1 : Moved w ((W.setCell ⟨T, 1, none⟩ (.slice bo m cb)).drewN nq) (ownT T ao bo) := by
      have := HX.out.2.1.trans (Moved.of_set W ⟨T, 1, none⟩ (.slice bo m cb) (S := fun k => k = T) rfl) (fun _ hk => .inl (.inl hk))
      exact ⟨this.os, this.tape, this.output, this.size, this.block⟩
    exact mv1.trans (Moved.of_grown (S := fun k => k = D) (grownBy_putObj' _ D _) (fun k e => by cases e; rfl)) (fun k hk => .inr (by rw [hk]; exact HX.out.2.2.2))
end
end Go.Proofs.YtcgadmeagbcbnaaDoor
