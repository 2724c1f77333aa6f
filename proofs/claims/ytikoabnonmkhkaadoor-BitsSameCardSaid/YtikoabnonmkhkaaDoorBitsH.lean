/- What a set's each hands over. -/
import Derived.Test.YtikoabnonmkhkaaDoorBitsG
import Derived.Test.YtikoabnonmkhkaaDoorThroughB
namespace Go.Proofs.YtikoabnonmkhkaaDoor
open Go.RowKit Go.Shelf
attribute [local go_sem] Oper.semAt_some

theorem each_any (a b c d : Nat) (w : World) : Calls Tryd.prog 36 #[sv a b c d] w fun e w' =>
    e = .returned (.func (.func 42) #[] #[.pointer (some ⟨w.heap.size, 0, none⟩)]) ∧ w.alloc (.cells #[.int .u64 a, .int .u64 b, .int .u64 c, .int .u64 d] 24) = w' := by
  unfold sv
  go_enter Tryd.func36, Tryd.ntmps36
  go_wp2
  go_ret
  exact ⟨rfl, rfl⟩
/-- What it reads. -/
structure EP (Bs a b c d : Nat) (W : World) : Prop where
  bx : Arr W Bs 24 [.int .u64 a, .int .u64 b, .int .u64 c, .int .u64 d]
  tab : TabAt W
  pos : 0 < W.heap.size
theorem cell_putObj {W : World} {l : Nat} {o o' : Obj} {a : Addr} {v : Value} (hl : W.heap[l]? = some o) (ho : o.isCells = false) (h : W.cell? a = some v) : (W.putObj l o').cell? a = some v := by
  have hne : a.block ≠ l := fun e => by
    unfold World.cell? at h
    rw [e, hl] at h
    cases o <;> simp [Obj.isCells] at ho h
  exact (World.cell?_of_block (World.putObj_heap_other hne)).trans h
theorem size_putObj (W : World) (l : Nat) (o : Obj) : (W.putObj l o).heap.size = W.heap.size := by simp [World.putObj]
theorem EP.onCells (Bs a b c d : Nat) : OnCells (EP Bs a b c d) := fun W l _ o' hl ho h =>
  ⟨Arr.putObj hl ho h.bx, fun j hj => cell_putObj hl ho (h.tab j hj), by rw [size_putObj]; exact h.pos⟩
theorem EP.below {Bs a b c d : Nat} {W W' : World} (h : EP Bs a b c d W) (hb : Below W.heap.size W W') : EP Bs a b c d W' :=
  ⟨h.bx.below hb h.bx.lt, h.tab.below h.pos hb, Nat.lt_of_lt_of_le h.pos hb.size⟩
theorem take_len {L M : List Nat} (A : List Nat) (x : Nat) (h : ∃ R, L = A ++ [x] ++ R) (hk : M = A) : L[M.length]? = some x ∧ L.take (M.length + 1) = A ++ [x] := by
  obtain ⟨R, rfl⟩ := h
  subst hk
  constructor
  · simp
  · rw [List.take_append_of_le_length (by simp), List.take_of_length_le (by simp)]
theorem lstTo_pre (S : List Nat) (n m : Nat) (h : n ≤ m) : ∃ R, lstTo S m = lstTo S n ++ R := by
  induction m with
  | zero => exact ⟨[], by rw [show n = 0 by omega]; simp⟩
  | succ m ih =>
    rcases Nat.lt_or_ge m n with h1 | h1
    · exact ⟨[], by rw [show n = m + 1 by omega]; simp⟩
    · obtain ⟨R, hR⟩ := ih h1
      rw [lstTo_succ]
      split
      · exact ⟨R ++ [m], by rw [hR, List.append_assoc]⟩
      · exact ⟨R, hR⟩
def leftB (i : Int) : Nat := if i < 0 then 0 else (257 - i).toNat
set_option maxRecDepth 100000 in
set_option maxHeartbeats 2000000 in
theorem each1 (n : Nat) (hn : 1 ≤ n) (Bs a b c d : Nat) (h1 : a < 2 ^ 64) (h2 : b < 2 ^ 64) (h3 : c < 2 ^ 64) (h4 : d < 2 ^ 64) (w : World) (hP : EP Bs a b c d w) :
    HandsOverB n Tryd.prog 42 #[.pointer (some ⟨Bs, 0, none⟩)] (fun x : Nat => #[Value.int .i64 (x : Int)]) (KpOf (EP Bs a b c d)) (lst [a, b, c, d]) w := by
  intro l J W hW hY hJb h0
  have hPW := hP.below hW
  clear hP hW
  have hwf := wf_mk h1 h2 h3 h4
  have HN : Hid (∀ (i : Int) (W' : World), i ≤ 9223372036854775807 → EP Bs a b c d W' → Calls Tryd.prog 17 #[.agg #[.int .u64 a, .int .u64 b, .int .u64 c, .int .u64 d], .int .i64 i] W' (NextPost [a, b, c, d] i.toNat W')) :=
    fun i W' hi hE => bnext_any hwf i hi W' hE.tab hE.pos
  clear hwf h1 h2 h3 h4
  have c0 : W.cell? ⟨Bs, 0, none⟩ = some (.int .u64 a) := hPW.bx.cell 0
  have c1 : W.cell? ⟨Bs, 1, none⟩ = some (.int .u64 b) := hPW.bx.cell 1
  have c2 : W.cell? ⟨Bs, 2, none⟩ = some (.int .u64 c) := hPW.bx.cell 2
  have c3 : W.cell? ⟨Bs, 3, none⟩ = some (.int .u64 d) := hPW.bx.cell 3
  refine callsIn_of_wp Tryd.func42 rfl trivial ?_ rfl
  simp only [Tryd.ntmps42, List.size_toArray, List.length_cons, List.length_nil, Nat.reduceAdd, Nat.reduceSub, Array.replicate_succ, Array.replicate_zero, List.push_toArray, List.append_toArray, List.nil_append, List.cons_append]
  have HY := Lib.hid hY
  have HP := Lib.hid (And.intro hPW h0)
  have HJb := Lib.hid hJb
  clear hJb
  clear hY hPW h0
  gi_wp2_with (refine ⟨trivial, ?_⟩; gi_at_call 17; refine (callsIn_wide.2 (HN.out 0 _ (by omega) HP.out.1)).mono ?_; rintro e w' ⟨v, rfl, hv, hb⟩; have HV := Lib.hid (And.intro hv hb); clear hv hb)
  gi_loopw [3] (fun s wr => ∃ (k i : Nat) (v : Int), s = .int .i64 v ∧ i ≤ 256 ∧ NextR [a, b, c, d] i v ∧ (lst [a, b, c, d]).take k = lstTo [a, b, c, d] i ∧ k = (lstTo [a, b, c, d] i).length ∧ J k wr ∧ EP Bs a b c d wr) (fun s _ => leftB (intOf s))
  case atStart => exact ⟨0, 0, _, rfl, by omega, HV.out.1, by simp [lstTo], by simp [lstTo], HJb.out _ _ _ HP.out.2 HV.out.2, HP.out.1.below HV.out.2⟩
  case round =>
    obtain ⟨k, i, z, rfl, hi, hN, hT, hk, hJ, hPs⟩ := hrel
    rcases next_lst hN hi with ⟨rfl, hl⟩ | ⟨j, rfl, hij, hj, hlt, hhas⟩
    · have HJ := Lib.hid hJ
      clear hJ hT hN c0 c1 c2 c3
      gi_wp2
      go_end0
      refine ⟨⟨_, rfl⟩, ?_⟩
      rw [hl, ← hk]
      exact HJ.out
    · have d0 : wr.cell? ⟨Bs, 0, none⟩ = some (.int .u64 a) := hPs.bx.cell 0
      have d1 : wr.cell? ⟨Bs, 1, none⟩ = some (.int .u64 b) := hPs.bx.cell 1
      have d2 : wr.cell? ⟨Bs, 2, none⟩ = some (.int .u64 c) := hPs.bx.cell 2
      have d3 : wr.cell? ⟨Bs, 3, none⟩ = some (.int .u64 d) := hPs.bx.cell 3
      obtain ⟨hx, htk⟩ := take_len (L := lst [a, b, c, d]) (M := lstTo [a, b, c, d] i) (lstTo [a, b, c, d] i) j (by rw [← hlt]; obtain ⟨R, hR⟩ := lstTo_pre [a, b, c, d] (j + 1) 256 (by omega); exact ⟨R, hR⟩) rfl
      rw [← hk] at hx htk
      obtain ⟨fn, tmps, assign, body, hy, hR⟩ := HY.out k j wr hx hJ
      try dsimp only at hy
      have HF := Lib.hid (And.intro hk (And.intro hlt htk))
      have q0 : (0 : Int) ≤ j := by omega
      have HS := Lib.hid hPs
      clear hx htk hk hlt hT hN hJ hPs c0 c1 c2 c3 d0 d1 d2 d3 hhas
      gi_wp2
      refine hR.mono ?_
      rintro e W3 ⟨rfl, hJ3, hk3⟩
      have HE3 := Lib.hid (And.intro hJ3 (hk3 HS.out))
      have d0 : W3.cell? ⟨Bs, 0, none⟩ = some (.int .u64 a) := HE3.out.2.bx.cell 0
      have d1 : W3.cell? ⟨Bs, 1, none⟩ = some (.int .u64 b) := HE3.out.2.bx.cell 1
      have d2 : W3.cell? ⟨Bs, 2, none⟩ = some (.int .u64 c) := HE3.out.2.bx.cell 2
      have d3 : W3.cell? ⟨Bs, 3, none⟩ = some (.int .u64 d) := HE3.out.2.bx.cell 3
      clear hJ3 hk3
      gi_wp2_with (refine ⟨trivial, ?_⟩; gi_at_call 17; refine (callsIn_wide.2 (HN.out ((j : Int) + 1) _ (by omega) HE3.out.2)).mono ?_; rintro e w' ⟨v', rfl, hv, hb⟩; have HV' := Lib.hid (And.intro hv hb); clear hv hb)
      go_roundw
      case rel =>
        obtain ⟨hk, hlt, htk⟩ := HF.out
        have hv := HV'.out.1
        rw [show ((j : Int) + 1).toNat = j + 1 by omega] at hv
        exact ⟨k + 1, j + 1, v', rfl, by omega, hv, htk.trans hlt.symm, by rw [hlt, List.length_append, ← hk]; rfl, HJb.out _ _ _ HE3.out.1 HV'.out.2, HE3.out.2.below HV'.out.2⟩
      case measure =>
        have hv := HV'.out.1
        rw [show ((j : Int) + 1).toNat = j + 1 by omega] at hv
        have hge : v' = -1 ∨ (j : Int) + 1 ≤ v' := by
          rcases hv with ⟨e, _⟩ | ⟨m, e, h1, _⟩
          · exact .inl e
          · exact .inr (by omega)
        show leftB v' < leftB (j : Int)
        unfold leftB
        rw [if_neg (show ¬ (j : Int) < 0 by omega)]
        split <;> omega
end Go.Proofs.YtikoabnonmkhkaaDoor
