/- What a trail's since hands over. No condition. -/
import Derived.Test.YtcgadmeagbcbnaaDoorThrough
import Derived.Test.YtcgadmeagbcbnaaDoorTrailAllocW
namespace Go.Proofs.YtcgadmeagbcbnaaDoor
open Go.RowKit Go.Shelf
attribute [local go_sem] Oper.semAt_some

theorem tsince_any (T : Nat) (m : Int) (w : World) : Calls Tryd.prog 42 #[.pointer (some ⟨T, 0, none⟩), .int .i64 m] w fun e w' =>
    e = .returned (.func (.func 54) #[] #[.pointer (some ⟨w.heap.size, 0, none⟩), .pointer (some ⟨w.heap.size + 1, 0, none⟩)]) ∧ (w.alloc (.cells #[.pointer (some ⟨T, 0, none⟩)] 24)).alloc (.cells #[.int .i64 m] 3) = w' := by
  go_enter Tryd.func42, Tryd.ntmps42
  go_wp2
  go_ret
  exact ⟨rfl, rfl⟩

/-- What it reads. -/
structure SinceP (Bt Bm T m : Nat) (bo : Option Addr) (cb : Nat) (hs : List (Int × Int)) (W : World) : Prop where
  bt : Boxed W Bt 24 (.pointer (some ⟨T, 0, none⟩))
  bm : Boxed W Bm 3 (.int .i64 (m : Int))
  c1 : W.cell? ⟨T, 1, none⟩ = some (.slice bo hs.length cb)
  ch : ∀ k (h : k < hs.length), ∃ g, bo = some ⟨g, 0, none⟩ ∧ W.cell? ⟨g, k * 2, none⟩ = some (.int .i64 hs[k].1) ∧ W.cell? ⟨g, k * 2 + 1, none⟩ = some (.int .i64 hs[k].2)
theorem cell_putObj {W : World} {l : Nat} {o o' : Obj} {a : Addr} {v : Value} (hl : W.heap[l]? = some o) (ho : o.isCells = false) (h : W.cell? a = some v) : (W.putObj l o').cell? a = some v := by
  have hne : a.block ≠ l := fun e => by
    unfold World.cell? at h
    rw [e, hl] at h
    cases o <;> simp [Obj.isCells] at ho h
  exact (World.cell?_of_block (World.putObj_heap_other hne)).trans h
theorem SinceP.onCells (Bt Bm T m : Nat) (bo : Option Addr) (cb : Nat) (hs : List (Int × Int)) : OnCells (SinceP Bt Bm T m bo cb hs) := fun _ _ _ _ hl ho h =>
  ⟨Boxed.putObj hl ho h.bt, Boxed.putObj hl ho h.bm, cell_putObj hl ho h.c1, fun k hk => let ⟨g, e, c, d⟩ := h.ch k hk; ⟨g, e, cell_putObj hl ho c, cell_putObj hl ho d⟩⟩
theorem SinceP.below {Bt Bm T m : Nat} {bo : Option Addr} {cb : Nat} {hs : List (Int × Int)} {W W' : World} (h : SinceP Bt Bm T m bo cb hs W) (hb : Below W.heap.size W W') : SinceP Bt Bm T m bo cb hs W' := by
  have key : ∀ {a : Addr} {v : Value}, W.cell? a = some v → W'.cell? a = some v := fun {a v} hc => (hb.cell (World.block_lt_of_cell? _ _ hc)).trans hc
  exact ⟨(hb.block Bt h.bt.lt).trans h.bt, (hb.block Bm h.bm.lt).trans h.bm, key h.c1, fun k hk => let ⟨g, e, c, d⟩ := h.ch k hk; ⟨g, e, key c, key d⟩⟩
theorem rev_at (hs : List (Int × Int)) (m q : Nat) (h1 : m ≤ q) (h2 : q < hs.length) : ((hs.drop m).reverse)[hs.length - (q + 1)]? = some hs[q] := by
  rw [List.getElem?_reverse (by simp; omega), List.length_drop, List.getElem?_drop]
  rw [show m + (hs.length - m - 1 - (hs.length - (q + 1))) = q from by omega]
  simp [h2]

set_option maxRecDepth 100000 in
set_option maxHeartbeats 2000000 in
theorem tsince1 (n : Nat) (hn : 1 ≤ n) (Bt Bm T m : Nat) (bo : Option Addr) (cb : Nat) (hs : List (Int × Int)) (hm : m ≤ hs.length) (hlen : hs.length < 1099511627776) (w : World) (hP : SinceP Bt Bm T m bo cb hs w) :
    HandsOver n Tryd.prog 54 #[.pointer (some ⟨Bt, 0, none⟩), .pointer (some ⟨Bm, 0, none⟩)] (fun x : Int × Int => #[.agg #[.int .i64 x.1, .int .i64 x.2]]) (KpOf (SinceP Bt Bm T m bo cb hs)) ((hs.drop m).reverse) w := by
  intro l J W hW hY h0
  have hPW := hP.below hW
  clear hP hW
  have c0 := hPW.bt.cell
  have c1 := hPW.c1
  refine callsIn_of_wp Tryd.func54 rfl trivial ?_ rfl
  simp only [Tryd.ntmps54, List.size_toArray, List.length_cons, List.length_nil, Nat.reduceAdd, Nat.reduceSub, Array.replicate_succ, Array.replicate_zero, List.push_toArray, List.append_toArray, List.nil_append, List.cons_append]
  have HY := Lib.hid hY
  clear hY
  gi_wp2
  gi_loopw [4] (fun i wr => ∃ (q : Nat) (z : Int), m ≤ q ∧ q ≤ hs.length ∧ z = (q : Int) - 1 ∧ i = .int .i64 z ∧ J (hs.length - q) wr ∧ SinceP Bt Bm T m bo cb hs wr) (fun i _ => (intOf i + 1).toNat)
  case atStart => exact ⟨hs.length, _, hm, Nat.le_refl _, rfl, rfl, by rw [Nat.sub_self]; exact h0, hPW⟩
  case round =>
    obtain ⟨q, z, hmq, hq, hz, rfl, hJ, hPs⟩ := hrel
    have d0 := hPs.bt.cell
    have d1 := hPs.c1
    have d2 := hPs.bm.cell
    by_cases he : q = m
    · subst he
      obtain rfl : z = (q : Int) - 1 := hz
      have hB : decide ((q : Int) ≤ (q : Int) - 1) = false := by simp; omega
      have HJ := Lib.hid hJ
      clear hJ c0 c1 h0 hPW
      gi_wp2
      refine ⟨fun _ h => (by cases h), ?_⟩
      gi_wp2
      go_end0
      refine ⟨⟨_, rfl⟩, ?_⟩
      rw [List.length_reverse, List.length_drop]
      exact HJ.out
    · obtain ⟨q', rfl⟩ : ∃ q', q = q' + 1 := ⟨q - 1, by omega⟩
      obtain rfl : z = (q' : Int) := by omega
      obtain ⟨g, rfl, e0, e1⟩ := hPs.ch q' (by omega)
      have hx := rev_at hs m q' (by omega) (by omega)
      obtain ⟨x, hxx⟩ : ∃ x, hs[q']'(by omega) = x := ⟨_, rfl⟩
      rw [hxx] at e0 e1 hx
      obtain ⟨fn, tmps, assign, body, hy, hR⟩ := HY.out (hs.length - (q' + 1)) x wr hx hJ
      try dsimp only at hy
      have hmq2 : m ≤ q' := by omega
      have hB : decide (m ≤ q') = true := by simp; omega
      clear hmq
      have q0 : (0 : Int) ≤ q' := by omega
      have q1 : (q' : Int) < hs.length := by omega
      clear hx hxx hz he c0 c1 h0
      gi_wp2
      refine hR.mono ?_
      rintro e W3 ⟨rfl, hJ3, hk3⟩
      rw [show hs.length - (q' + 1) + 1 = hs.length - q' from by omega] at hJ3
      have HJ3 := Lib.hid (And.intro hJ3 (hk3 hPs))
      clear hJ3 hk3
      gi_wp2
      go_roundw
      case rel => exact ⟨q', _, hmq2, by omega, rfl, rfl, HJ3.out.1, HJ3.out.2⟩
      case measure => simp [intOf]
end Go.Proofs.YtcgadmeagbcbnaaDoor
