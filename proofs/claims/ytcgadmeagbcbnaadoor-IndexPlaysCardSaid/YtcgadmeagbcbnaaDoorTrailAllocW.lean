/- Alloc of a trail, walked. No condition. -/
import Derived.Test.YtcgadmeagbcbnaaDoorTrailAlloc
namespace Go.Proofs.YtcgadmeagbcbnaaDoor
open Go.RowKit

theorem wpList_zeros_own {P : Program} (w : World) {ops : Array Oper} {rest : List Oper} {o : Oper} {a : Act} {Q : Exit → Act → World → Prop}
    (hg : o.guard = none) (s x : Operand) (t ti : TypeId) (hop : o.op = Op.call { callee := Callee.builtin Builtin.append, args := #[s, x], argTypes := #[t, ti] })
    (base : Nat) (e : TypeId) (k : IntKind) (i : TypeInfo) (z : Value) (bytes : Nat) (h1 : P.underlying t = some (.slice e)) (h1i : P.underlying ti = some (.int k)) (h2 : P.info? e = some i) (h3 : i.zero = some z) (h4 : i.size = 1) (h5 : i.bytes = bytes) (h6 : z.cells = #[z]) (h7 : z.oneCell' = true)
    (v : Value) (n : Nat) (xs : List Value) (hs : a.eval s = v) (hown : w.ownsRow base e 1 v n xs)
    (m : Nat) (hx : a.eval x = .int .i64 m) (h0 : 0 < m)
    (b1 : n + m ≤ maxLen) (b2 : (n + m) * bytes ≤ 140737488355328) (hb : base ≤ w.heap.size)
    (hK : ∀ v' w', w'.ownsRow base e 1 v' (n + m) (xs ++ List.replicate m z) → w.grownBy w' v.ownBlock → (∀ k, v'.ownBlock = some k → v.ownBlock = some k ∨ w.heap.size ≤ k) → wpList P ops Q rest (a.put o.dst v') w') :
    wpList P ops Q (o :: rest) a w := by
  subst h5
  refine wpList_plain hg fun K hK' => ?_
  obtain ⟨v', w', hrun, r1, r2, r3⟩ := run_zeros_own (P := P) w base t o.type e ti k i z h1 h1i h2 h3 h4 h6 h7 v n xs hown m h0 b1 b2 hb
  unfold Oper.wp
  simp [execOp, hop, resolve, invoke, builtin, hs, hx, hrun, Result.andThen]
  exact hK' _ _ (hK v' w' r1 r2 r3)

theorem wpList_append_fresh {P : Program} (w : World) {ops : Array Oper} {rest : List Oper} {o : Oper} {a : Act} {Q : Exit → Act → World → Prop}
    (hg : o.guard = none) (s x : Operand) (t : TypeId) (hop : o.op = Op.call { callee := Callee.builtin Builtin.append, args := #[s, x], argTypes := #[t, t] })
    (base : Nat) (e : TypeId) (i : TypeInfo) (z : Value) (size bytes : Nat) (h1 : P.underlying t = some (.slice e)) (h2 : P.info? e = some i) (h3 : i.zero = some z) (h4 : i.size = size) (h5 : i.bytes = bytes) (h6 : z.cells.size = size) (h7 : 0 < size)
    (v : Value) (n : Nat) (xs : List Value) (hs : a.eval s = v) (hown : w.ownsRow base e size v n xs)
    (ad : Addr) (m c : Nat) (news : List Value) (hx : a.eval x = .slice (some ad) m c) (hn : news.length = m * size) (hc : ∀ j u, news[j]? = some u → w.cell? (ad.add j) = some u) (h1c : ∀ u ∈ news, u.oneCell' = true)
    (b1 : n + m ≤ maxLen) (b2 : (n + m) * bytes ≤ 140737488355328) (hb : base ≤ w.heap.size)
    (hK : ∀ v' w', w'.ownsRow base e size v' (n + m) (xs ++ news) → w.grownBy w' v.ownBlock → (∀ k, v'.ownBlock = some k → v.ownBlock = some k ∨ w.heap.size ≤ k) → wpList P ops Q rest (a.put o.dst v') w') :
    wpList P ops Q (o :: rest) a w := by
  refine wpList_plain hg fun K hK' => ?_
  obtain ⟨v', w', hrun, r1, r2, r3⟩ := run_append_fresh (P := P) w base t o.type e i z size bytes h1 h2 h3 h4 h5 h6 h7 v n xs hown ad m c news hn hc h1c b1 b2 hb
  unfold Oper.wp
  simp [execOp, hop, resolve, invoke, builtin, hs, hx, hrun, Result.andThen]
  exact hK' _ _ (hK v' w' r1 r2 r3)

theorem grown_drew {a b : World} {r : Option Nat} (h : a.grownBy b r) : a.drew.grownBy b r := ⟨h.os, h.tape, h.output, h.size, h.block⟩
theorem two_newA (W : World) (x y : Value) (t : TypeId) : ∀ j u, [x, y][j]? = some u → (W.alloc (.cells #[x, y] t)).cell? ((⟨W.heap.size, 0, none⟩ : Addr).add j) = some u := two_new W x y t

section
variable {w : World} {base T : Nat} {ao bo : Option Addr} {ca cb : Nat} {cs : List Int} {hs : List (Int × Int)}
/-- A trail behind a call that wrote it. -/
def TStep (w w' : World) (base T : Nat) (ao bo : Option Addr) (cs : List Int) (hs : List (Int × Int)) : Prop :=
  ∃ ao' bo' ca' cb', TrAt w' base T ao' bo' ca' cb' cs hs ∧ Moved w w' (ownT T ao bo) ∧ ∀ k, ownT T ao' bo' k → ownT T ao bo k ∨ w.heap.size ≤ k
set_option maxHeartbeats 1000000 in
set_option maxRecDepth 4000 in
theorem talloc_any (h : TrAt w base T ao bo ca cb cs hs) (n : Nat) (h0 : 0 < n) (hn : cs.length + n ≤ 1048576) (hlen : hs.length < 1099511627776) (hbase : base ≤ w.heap.size) :
    Calls Tryd.prog 34 #[.pointer (some ⟨T, 0, none⟩), .int .i64 n] w fun e w' => e = .returned (.int .i64 cs.length) ∧ TStep w w' base T ao bo (cs ++ List.replicate n 0) (hs ++ [((-1 : Int), (n : Int))]) := by
  obtain ⟨i0, hi, hz0, hz1, hz2⟩ := info_parts infoCh
  obtain ⟨i1, hj, hy0, hy1, hy2⟩ := info_parts infoInt
  have c0 := h.c0
  have c1 := h.c1
  have hTl := h.lt
  have H := Lib.hid h
  have F0 := Lib.hid h0
  have F1 := Lib.hid hn
  have F2 := Lib.hid hlen
  have F3 := Lib.hid hbase
  obtain ⟨ni, hni⟩ : ∃ ni : Int, (n : Int) = ni := ⟨_, rfl⟩
  have hb1 : ¬ (ni < 1) := by omega
  have hb2 : ¬ (1048576 - (cs.length : Int) < ni) := by omega
  have hb3 : (cs.length : Int) ≤ 1048576 := by omega
  have HN := Lib.hid hni
  rw [hni]
  clear h h0 hn hlen hbase hni
  go_enter Tryd.func34, Tryd.ntmps34
  have tok1 : True := trivial
  go_wp2_with (first
    | (at_builtin; have _t := tok1; refine wpList_zeros_own _ rfl (.tmp 31) (.tmp 32) 34 3 rfl base 3 .i64 i1 (.int .i64 0) 8 Tryd.underlying34 Tryd.underlying3 hj hy0 hy1 hy2 rfl rfl (.slice ao cs.length ca) cs.length (cs.map (Value.int .i64)) (by simp [Act.eval]) H.out.cells n (by rw [HN.out]; simp [Act.eval]) F0.out (by have := F1.out; unfold maxLen; omega) (by have := F1.out; omega) F3.out ?_; intro v' w1 hown1 hgrow1 hfr1; obtain ⟨g', ca', rfl, HM, MM, FM, k0, k0', k1⟩ := alloc_mid H.out hgrow1 hown1 F0.out hfr1; have HMM := Lib.hid (And.intro HM (And.intro MM FM)); have hsz1 := hgrow1.size; clear tok1 HM MM FM hown1 hgrow1 hfr1)
    | (at_builtin; refine wpList_append_fresh _ rfl (.tmp 40) (.tmp 44) 68 rfl base 97 i0 (.agg #[.int .i64 0, .int .i64 0]) 2 16 Tryd.underlying68 hi hz0 hz1 hz2 rfl (by decide) (.slice bo hs.length cb) hs.length (flat hs) (by simp [Act.eval]) (HMM.out.1.chs.alloc _) ⟨w1.heap.size, 0, none⟩ 1 1 [.int .i64 (-1), .int .i64 ni] (by simp [Act.eval]) rfl (by simpa using two_newA (w1.setCell ⟨T, 0, none⟩ (.slice (some ⟨g', 0, none⟩) (cs.length + n) ca')) (.int .i64 (-1)) (.int .i64 ni) 97) (by simp [Value.oneCell']) (by have := F2.out; unfold maxLen; omega) (by have := F2.out; omega) (by have := F3.out; simp; omega) ?_; intro v2 w2 hown2 hgrow2 hfr2; obtain ⟨bo', cb', rfl, HM2, MM2, FM2, k2, k3⟩ := alloc_done HMM.out.1 (grown_drew hgrow2) hown2 hfr2; have HMM2 := Lib.hid (And.intro HM2 (And.intro MM2 FM2)); clear HM2 MM2 FM2 hown2 hgrow2 hfr2))
  go_ret
  refine ⟨rfl, some ⟨g', 0, none⟩, bo', ca', cb', HMM2.out.1, HMM.out.2.1.trans HMM2.out.2.1 (fun k hk => ?_), fun k hk => ?_⟩
  · rcases hk with hk | hk | hk
    · exact .inl (.inl hk)
    · injection hk with hk
      rcases HMM.out.2.2 with h | h
      · exact .inl (.inr (.inl (by rw [h, ← hk])))
      · exact .inr (by rw [← hk]; exact h)
    · exact .inl (.inr (.inr hk))
  · rcases hk with hk | hk | hk
    · exact .inl (.inl hk)
    · injection hk with hk
      rcases HMM.out.2.2 with h | h
      · exact .inl (.inr (.inl (by rw [h, ← hk])))
      · exact .inr (by rw [← hk]; exact h)
    · rcases HMM2.out.2.2 k hk with h | h
      · exact .inl (.inr (.inr h))
      · exact .inr (by simp at h; omega)
end
end Go.Proofs.YtcgadmeagbcbnaaDoor
