/- The walk of a trail's Set. No condition. -/
import Derived.Test.YtcgadmeagbcbnaaDoorTrailRead
import Derived.Test.YtcgadmeagbcbnaaDoorApp
namespace Go.Proofs.YtcgadmeagbcbnaaDoor
open Go.RowKit

/-- w' is w, but for new blocks and for the blocks of S. -/
structure Moved (w w' : World) (S : Nat → Prop) : Prop where
  os : w'.os = w.os
  tape : w'.tape = w.tape
  output : w'.output = w.output
  size : w.heap.size ≤ w'.heap.size
  block : ∀ k, k < w.heap.size → ¬ S k → w'.heap[k]? = w.heap[k]?
theorem Moved.refl (w : World) (S : Nat → Prop) : Moved w w S := ⟨rfl, rfl, rfl, Nat.le_refl _, fun _ _ _ => rfl⟩
theorem Moved.trans {a b c : World} {S S' : Nat → Prop} (h : Moved a b S) (h' : Moved b c S') (hs : ∀ k, S' k → S k ∨ a.heap.size ≤ k) : Moved a c S :=
  ⟨h'.os.trans h.os, h'.tape.trans h.tape, h'.output.trans h.output, Nat.le_trans h.size h'.size, fun k hk hn =>
    (h'.block k (Nat.lt_of_lt_of_le hk h.size) (fun hs' => (hs k hs').elim hn (fun h => by omega))).trans (h.block k hk hn)⟩
theorem Moved.of_below {a b : World} (h : Below a.heap.size a b) (S : Nat → Prop) : Moved a b S := ⟨h.os, h.tape, h.output, h.size, fun k hk _ => h.block k hk⟩
theorem Moved.of_grown {a b : World} {row : Option Nat} {S : Nat → Prop} (h : a.grownBy b row) (hr : ∀ k, row = some k → S k) : Moved a b S :=
  ⟨h.os, h.tape, h.output, h.size, fun k hk hn => h.block k hk (fun e => hn (hr k e.symm))⟩
theorem Moved.of_set (a : World) (p : Addr) (v : Value) {S : Nat → Prop} (hp : S p.block) : Moved a (a.setCell p v) S :=
  ⟨rfl, rfl, rfl, by simp, fun k _ hn => Below.heap_setCell _ _ _ _ (fun e => hn (e ▸ hp))⟩
theorem Moved.below {a b : World} {S : Nat → Prop} (h : Moved a b S) {B : Nat} (hS : ∀ k, S k → B ≤ k) (hB : B ≤ a.heap.size) : Below B a b :=
  ⟨h.os, h.tape, h.output, h.size, fun k hk => h.block k (by omega) (fun hs => by have := hS k hs; omega)⟩

def ownT (T : Nat) (ao bo : Option Addr) (k : Nat) : Prop := k = T ∨ ao.map Addr.block = some k ∨ bo.map Addr.block = some k

theorem infoCh : (Tryd.prog.info? 97).map (fun i => (i.zero, i.size, i.bytes)) = some (some (.agg #[.int .i64 0, .int .i64 0]), 2, 16) := by kernel_rfl
theorem infoInt : (Tryd.prog.info? 3).map (fun i => (i.zero, i.size, i.bytes)) = some (some (.int .i64 0), 1, 8) := by kernel_rfl

theorem two_new (W : World) (x y : Value) (t : TypeId) : ∀ j u, [x, y][j]? = some u → ((W.alloc (.cells #[x, y] t)).drew).cell? ((⟨W.heap.size, 0, none⟩ : Addr).add j) = some u := by
  intro j u hj
  match j, hj with
  | 0, hj => simp at hj; subst hj; simp [Addr.add]
  | 1, hj => simp at hj; subst hj; simp [Addr.add]
theorem set_facts {w w1 : World} {base T : Nat} {bo : Option Addr} {ca cb g n : Nat} {cs : List Int} {hs : List (Int × Int)} {o : Obj} {old : Value} (h : TrAt w base T (some ⟨g, 0, none⟩) bo ca cb cs hs)
    (hg : ((w.alloc o).drew).grownBy w1 (Value.slice bo hs.length cb).ownBlock) (hc : w.cell? ⟨g, n, none⟩ = some old) (hf : w.frozen? ⟨g, n, none⟩ = false) (hgl : g < w.heap.size) :
    w1.cell? ⟨T, 0, none⟩ = some (.slice (some ⟨g, 0, none⟩) cs.length ca) ∧ w1.cell? ⟨T, 1, none⟩ = some (.slice bo hs.length cb) ∧ (∀ i, w1.frozen? ⟨T, i, none⟩ = false) ∧ w1.cell? ⟨g, n, none⟩ = some old ∧ w1.frozen? ⟨g, n, none⟩ = false ∧ w.heap.size < w1.heap.size := by
  rw [own_block] at hg
  have hs0 : (w.alloc o).drew.heap.size = w.heap.size + 1 := World.size_alloc _ _
  have hT : w1.heap[T]? = w.heap[T]? := (hg.block T (by rw [hs0]; have := h.lt; omega) (Ne.symm h.neB)).trans (Below.heap_alloc w o T h.lt)
  have hG : w1.heap[g]? = w.heap[g]? := (hg.block g (by rw [hs0]; omega) (Ne.symm (h.neAB rfl))).trans (Below.heap_alloc w o g hgl)
  exact ⟨(World.cell?_of_block (a := ⟨T, 0, none⟩) hT).trans h.c0, (World.cell?_of_block (a := ⟨T, 1, none⟩) hT).trans h.c1, fun i => (World.frozen?_of_block (a := ⟨T, i, none⟩) hT).trans (h.fr i),
    (World.cell?_of_block (a := ⟨g, n, none⟩) hG).trans hc, (World.frozen?_of_block (a := ⟨g, n, none⟩) hG).trans hf, by have := hg.size; rw [hs0] at this; omega⟩

theorem set_done {w w1 : World} {base T : Nat} {bo : Option Addr} {ca cb g n g' cap' : Nat} {cs : List Int} {hs : List (Int × Int)} {o : Obj} {v old : Int} (h : TrAt w base T (some ⟨g, 0, none⟩) bo ca cb cs hs)
    (hg : ((w.alloc o).drew).grownBy w1 (Value.slice bo hs.length cb).ownBlock) (hown : w1.ownsRow base 97 2 (.slice (some ⟨g', 0, none⟩) (hs.length + 1) cap') (hs.length + 1) (flat hs ++ [.int .i64 n, .int .i64 old]))
    (hfr : ∀ k, (Value.slice (some ⟨g', 0, none⟩) (hs.length + 1) cap').ownBlock = some k → (Value.slice bo hs.length cb).ownBlock = some k ∨ (w.alloc o).drew.heap.size ≤ k) (hgl : g < w.heap.size) (hgT : g ≠ T) :
    ∃ bo' cb', TrAt ((w1.setCell ⟨T, 1, none⟩ (.slice (some ⟨g', 0, none⟩) (hs.length + 1) cap')).setCell ⟨g, n, none⟩ (.int .i64 v)) base T (some ⟨g, 0, none⟩) bo' ca cb' (cs.set n v) (hs ++ [((n : Int), old)]) ∧
      Moved w ((w1.setCell ⟨T, 1, none⟩ (.slice (some ⟨g', 0, none⟩) (hs.length + 1) cap')).setCell ⟨g, n, none⟩ (.int .i64 v)) (ownT T (some ⟨g, 0, none⟩) bo) ∧ ∀ k, bo'.map Addr.block = some k → bo.map Addr.block = some k ∨ w.heap.size ≤ k := by
  have hgg := hg
  rw [own_block] at hg
  have hs0 : (w.alloc o).drew.heap.size = w.heap.size + 1 := World.size_alloc _ _
  have hT : w1.heap[T]? = w.heap[T]? := (hg.block T (by rw [hs0]; have := h.lt; omega) (Ne.symm h.neB)).trans (Below.heap_alloc w o T h.lt)
  have hG : w1.heap[g]? = w.heap[g]? := (hg.block g (by rw [hs0]; omega) (Ne.symm (h.neAB rfl))).trans (Below.heap_alloc w o g hgl)
  have hcells : w1.ownsRow base 3 1 (.slice (some ⟨g, 0, none⟩) cs.length ca) cs.length (cs.map (Value.int .i64)) := ((h.cells.alloc o).drew).kept hgg (.inr (by rw [own_block, own_block]; exact fun e => h.neAB rfl e.symm))
  obtain ⟨_, c1 | ⟨ga, capa, cura, hva, hga, hha, hna, hma, hsa, hta⟩⟩ := hcells
  · exact absurd c1.1 (by simp)
  obtain ⟨hl2, c2 | ⟨gb, capb, curb, hvb, hgb, hhb, hnb, hmb, hsb, htb⟩⟩ := hown
  · exact absurd c2.1 (by simp)
  injection hva with e1 e2 e3; injection e1 with e1; injection e1 with e1; subst e1; subst e3
  injection hvb with f1 f2 f3; injection f1 with f1; injection f1 with f1; subst f1; subst f3
  have hne : g' ≠ g := fun e => by subst e; rw [hha] at hhb; injection hhb with hhb; injection hhb with _ h5 _; exact absurd h5 (by decide)
  have hTb : w1.heap[T]? = some (.cells #[.slice (some ⟨g, 0, none⟩) cs.length ca, .slice bo hs.length cb] 70 (0, 0)) := hT.trans h.blk
  have hneT : g' ≠ T := fun e => by subst e; rw [hTb] at hhb; injection hhb with hhb; injection hhb with _ h5 _; exact absurd h5 (by decide)
  refine ⟨some ⟨g', 0, none⟩, cap', ⟨h.hT, ?_, ⟨by simp, .inr ⟨g, ca, cura.setIfInBounds n (.int .i64 v), by simp, hga, ?_, by simpa using hna, hma, by simpa using hsa, ?_⟩⟩, ⟨by rw [flat_len], .inr ⟨g', cap', curb, by simp, hgb, ?_, by simpa using hnb, hmb, hsb, ?_⟩⟩⟩, ?_, ?_⟩
  · rw [heap_setCell_other _ _ _ _ (Ne.symm hgT), heap_setCell_same _ _ _ _ _ _ hTb]
    simp
  · rw [heap_setCell_same _ _ _ _ _ _ ((heap_setCell_other _ _ _ _ hgT).trans hha)]
  · rw [Array.toList_setIfInBounds, List.length_set, List.take_set, hta, List.map_set]
  · rw [heap_setCell_other _ _ _ _ hne, heap_setCell_other _ _ _ _ hneT]; exact hhb
  · rw [flat_append, List.length_append, List.length_singleton, htb]; rfl
  · have m1 : Moved w w1 (ownT T (some ⟨g, 0, none⟩) bo) :=
      (Moved.of_below (by exact ((Below.refl _ w).alloc (Nat.le_refl _) o).drew) _).trans (Moved.of_grown (S := fun k => bo.map Addr.block = some k) hg (fun k e => e)) (fun k hk => .inl (.inr (.inr hk)))
    exact (m1.trans (Moved.of_set _ ⟨T, 1, none⟩ _ (S := fun k => k = T) rfl) (fun k hk => .inl (.inl hk))).trans (Moved.of_set _ ⟨g, n, none⟩ _ (S := fun k => k = g) rfl) (fun k hk => .inl (.inr (.inl (by rw [hk]; rfl))))
  · intro k hk
    have := hfr k hk
    rw [own_block] at this
    exact this.imp id (fun h => by rw [hs0] at h; omega)

section
variable {w : World} {base T : Nat} {ao bo : Option Addr} {ca cb : Nat} {cs : List Int} {hs : List (Int × Int)}
theorem tset_none (h : TrAt w base T ao bo ca cb cs hs) (i v : Int) (hn : ¬ (0 ≤ i ∧ i < cs.length)) : Calls Tryd.prog 52 #[.pointer (some ⟨T, 0, none⟩), .int .i64 i, .int .i64 v] w fun e w' => e = .returned (.tuple #[]) ∧ w = w' := by
  have hB : hasB cs i = false := decide_eq_false hn
  have hh := thas_any h i
  rw [hB] at hh
  have Hh := Lib.hid hh
  clear h hn hB hh
  go_enter Tryd.func52, Tryd.ntmps52
  go_wp2_with (go_at_call 55; refine Hh.out.mono ?_; rintro e w' ⟨rfl, rfl⟩)
  refine bodyPost_ret (results_none rfl _ _ _) rfl ?_
  exact ⟨rfl, rfl⟩
theorem tset_nil (i v : Int) (w : World) : Calls Tryd.prog 52 #[.pointer none, .int .i64 i, .int .i64 v] w fun e w' => e = .returned (.tuple #[]) ∧ w = w' := by
  go_enter Tryd.func52, Tryd.ntmps52
  go_wp2_with (go_at_call 55; refine (thas_nil _ _).mono ?_; rintro e w' ⟨rfl, rfl⟩)
  refine bodyPost_ret (results_none rfl _ _ _) rfl ?_
  exact ⟨rfl, rfl⟩
theorem tset_same (h : TrAt w base T ao bo ca cb cs hs) (n : Nat) (v : Int) (hn : n < cs.length) (hv : cs.getD n 0 = v) : Calls Tryd.prog 52 #[.pointer (some ⟨T, 0, none⟩), .int .i64 n, .int .i64 v] w fun e w' => e = .returned (.tuple #[]) ∧ w = w' := by
  have hB : hasB cs n = true := decide_eq_true ⟨by omega, by omega⟩
  have hh := thas_any h n
  rw [hB] at hh
  have Hh := Lib.hid hh
  obtain ⟨g, rfl, _, _, _, hc, _⟩ := h.cell hn
  have c0 := h.c0
  rw [hv] at hc
  have hlt : (n : Int) < cs.length := by omega
  clear h hn hB hh hv
  go_enter Tryd.func52, Tryd.ntmps52
  go_wp2_with (go_at_call 55; refine Hh.out.mono ?_; rintro e w' ⟨rfl, rfl⟩)
  refine bodyPost_ret (results_none rfl _ _ _) rfl ?_
  exact ⟨rfl, rfl⟩

set_option maxHeartbeats 1000000 in
theorem tset_any (h : TrAt w base T ao bo ca cb cs hs) (n : Nat) (v old : Int) (hn : n < cs.length) (hv : cs.getD n 0 = old) (hne : old ≠ v) (hlen : hs.length < 1099511627776) (hbase : base ≤ w.heap.size) :
    Calls Tryd.prog 52 #[.pointer (some ⟨T, 0, none⟩), .int .i64 n, .int .i64 v] w fun e w' => e = .returned (.tuple #[]) ∧
      ∃ bo' cb', TrAt w' base T ao bo' ca cb' (cs.set n v) (hs ++ [((n : Int), old)]) ∧ Moved w w' (ownT T ao bo) ∧ ∀ k, bo'.map Addr.block = some k → bo.map Addr.block = some k ∨ w.heap.size ≤ k := by
  have hB : hasB cs n = true := decide_eq_true ⟨by omega, by omega⟩
  have hh := thas_any h n
  rw [hB] at hh
  have Hh := Lib.hid hh
  obtain ⟨i0, hi, hz0, hz1, hz2⟩ := info_parts infoCh
  obtain ⟨g, rfl, hg, hgl, hgT, hc, hf⟩ := h.cell hn
  have c0 := h.c0
  have c1 := h.c1
  have hTl := h.lt
  rw [hv] at hc
  have hlt : (n : Int) < cs.length := by omega
  have hneB : (old == v) = false := by simp [hne]
  have H := Lib.hid h
  have HN := Lib.hid hne
  have HV := Lib.hid hv
  clear h hB hh hv hne
  go_enter Tryd.func52, Tryd.ntmps52
  go_wp2_with (go_at_call 55; refine Hh.out.mono ?_; rintro e w' ⟨rfl, rfl⟩)
  go_region_law (refine step_append_own rfl (.tmp 25) (.tmp 36) 68 rfl base 97 i0 (.agg #[.int .i64 0, .int .i64 0]) 2 16 Tryd.underlying68 hi hz0 hz1 hz2 rfl (by decide) (.slice bo hs.length cb) hs.length (flat hs) (by simp [Act.eval]) (H.out.chs.alloc _).drew ⟨w.heap.size, 0, none⟩ 1 1 [.int .i64 n, .int .i64 old] (by simp [Act.eval]) rfl (two_new _ _ _ _) (by simp [Value.oneCell']) (by unfold maxLen; omega) (by omega) (by simp; omega) ?_; intro v' w1 hown1 hgrow1 hfr1; obtain ⟨g', cap', rfl⟩ := own_form hown1 (by omega); obtain ⟨k0, k1, k2, k3, k4, k5⟩ := set_facts H.out hgrow1 hc hf hgl)
  all_goals
    go_wp2
    go_end0
    exact ⟨rfl, set_done H.out (by assumption) (by assumption) (by assumption) hgl hgT⟩
end
end Go.Proofs.YtcgadmeagbcbnaaDoor
