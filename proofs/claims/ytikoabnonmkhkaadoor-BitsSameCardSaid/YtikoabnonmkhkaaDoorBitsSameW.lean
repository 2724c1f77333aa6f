/- The walk of BitsSame. -/
import Derived.Test.YtikoabnonmkhkaaDoorBitsS
namespace Go.Proofs.YtikoabnonmkhkaaDoor
open Go.RowKit
attribute [local irreducible] Calls

def DSame3 : List (Option Nat) := [some 14, some 15, some 16, some 17, some 18, some 19, some 20, some 21, some 22, some 23, some 24, some 25, some 5, some 6, none, none]
def TLSame3 (n0 k j N M cc dd a b c d a2 b2 c2 d2 : Nat) (aa ab : Option Addr) : List TyB := [
  .is (.slice aa k cc),
  .is (.slice aa k cc),
  .is (.int .i64 (k : Nat)),
  .is (.int .i64 (N : Nat)),
  .is (.slice aa N cc),
  .is (.agg #[.int .u64 a, .int .u64 b, .int .u64 c, .int .u64 d]),
  .is (.slice ab j dd),
  .is (.slice ab j dd),
  .is (.int .i64 (j : Nat)),
  .is (.int .i64 (M : Nat)),
  .is (.slice ab M dd),
  .is (.agg #[.int .u64 a2, .int .u64 b2, .int .u64 c2, .int .u64 d2]),
  .arr n0 24 [.int .u64 0, .int .u64 0, .int .u64 0, .int .u64 0],
  .arr n0 24 [.int .u64 0, .int .u64 0, .int .u64 0, .int .u64 0]]
def DSame9 : List (Option Nat) := [some 40, some 41, some 42, some 43, some 44, some 45, some 46, some 47, some 48, some 49, some 50, some 51, some 52]
def TLSame9 (a b c d a2 b2 c2 d2 : Nat) (sb : Bool) : List TyB := [
  .is (.agg #[.int .u64 a, .int .u64 b, .int .u64 c, .int .u64 d]),
  .is (.agg #[.int .u64 a2, .int .u64 b2, .int .u64 c2, .int .u64 d2]),
  .is (.bool sb),
  .is (.bool sb),
  .is (.bool false),
  .is (.bool false),
  .is (.agg #[.int .u64 a, .int .u64 b, .int .u64 c, .int .u64 d]),
  .is (.int .i64 ((lst [a, b, c, d]).length : Nat)),
  .is (.agg #[.int .u64 a, .int .u64 b, .int .u64 c, .int .u64 d]),
  .ints (lst [a, b, c, d]),
  .is (.int .i64 ((lst [a, b, c, d]).length : Nat)),
  .is (.bool false),
  .is (.bool false)]

set_option maxRecDepth 100000 in
set_option maxHeartbeats 2000000 in
theorem same_walk (aa ab : Option Addr) (k j N M cc dd : Nat) (l p : List Int) (w : World) (hI : Ints w w.heap.size (.slice aa k cc) l) (hJ : Ints w w.heap.size (.slice ab j dd) p) (hkl : k = l.length) (hjl : j = p.length) (hN : N = min k 300) (hM : M = min j 300) (hkc : k ≤ cc) (hjd : j ≤ dd) (hm : (k : Int) ≤ 9223372036854775807) (hn : (j : Int) ≤ 9223372036854775807) (hT : TabAt w) (h0 : 0 < w.heap.size) :
    Calls Tryd.prog 5 #[.slice aa k cc, .slice ab j dd] w fun e w' => e = .returned (.bool true) ∧ Below w.heap.size w w' := by
  have himin : ∀ x y : Int, (if y < x then y else x) = imin x y := fun _ _ => rfl
  have e1_ : imin (k : Int) 300 = (N : Int) := by have := imin_nat k 300; rw [← hN] at this; exact this
  have e2_ : imin (j : Int) 300 = (M : Int) := by have := imin_nat j 300; rw [← hM] at this; exact this
  have b1_ : (N : Int) ≤ cc := by omega
  have b2_ : (M : Int) ≤ dd := by omega
  have b3_ : N ≤ 300 := by omega
  have b4_ : M ≤ 300 := by omega
  obtain ⟨a, b, c, d, hS1, _⟩ := wf_form (wf_setOfI (l.take N))
  obtain ⟨a2, b2, c2, d2, hS2, _⟩ := wf_form (wf_setOfI (p.take M))
  have hwfS := Lib.hid (show wfB [a, b, c, d] from hS1 ▸ wf_setOfI (l.take N))
  have hwfT := Lib.hid (show wfB [a2, b2, c2, d2] from hS2 ▸ wf_setOfI (p.take M))
  have hOf1 := Lib.hid (show ∀ W : World, Below w.heap.size w W → Calls Tryd.prog 28 #[.slice aa N cc] W fun e w' => e = .returned (.agg #[.int .u64 a, .int .u64 b, .int .u64 c, .int .u64 d]) ∧ Below W.heap.size W w' from fun W hb => by
    have := of_anyI (.slice aa N cc) (l.take N) W (((ints_take hI hkl (by omega)).below hb (Nat.le_refl _)).mono hb.size) (by simp; omega)
    rw [hS1] at this; exact this)
  have hOf2 := Lib.hid (show ∀ W : World, Below w.heap.size w W → Calls Tryd.prog 28 #[.slice ab M dd] W fun e w' => e = .returned (.agg #[.int .u64 a2, .int .u64 b2, .int .u64 c2, .int .u64 d2]) ∧ Below W.heap.size W w' from fun W hb => by
    have := of_anyI (.slice ab M dd) (p.take M) W (((ints_take hJ hjl (by omega)).below hb (Nat.le_refl _)).mono hb.size) (by simp; omega)
    rw [hS2] at this; exact this)
  have HTT := Lib.hid (And.intro hT h0)
  clear hI hJ hkl hjl hN hM hT h0 hS1 hS2
  go_enter Tryd.func5, Tryd.ntmps5
  go_upto_region 3 with (go_at_call 21; refine (works_any _ HTT.out.1 HTT.out.2).mono ?_; rintro e wk ⟨rfl, hbk⟩)
  have HBK := Lib.hid hbk
  clear hbk
  refine wp_gen fun a0 w0 ha0 hw0 => ?_
  subst hw0
  have hS0 : StB w0 w0 := ⟨Below.refl _ _, HTT.out.1.below HTT.out.2 HBK.out, Nat.lt_of_lt_of_le HTT.out.2 HBK.out.size⟩
  have z : a0.tmps.size = 81 := by rw [ha0]; rfl
  have e0 : a0.tmps[0]? = some (.slice aa k cc) := by rw [ha0]; rfl
  have e1 : a0.tmps[1]? = some (.slice ab j dd) := by rw [ha0]; rfl
  obtain ⟨n0, hn0⟩ : ∃ n0, w0.heap.size = n0 := ⟨_, rfl⟩
  have HA0 := Lib.hid ha0
  clear ha0
  refine wp_region_typed_tail 14 DSame3 [] [12, 13] (fun k_ v_ w_ => ((TLSame3 n0 k j N M cc dd a b c d a2 b2 c2 d2 aa ab).getD k_ .any).ok v_ w_) (fun w w' => Below w.heap.size w w') (fun _ w => StB w0 w) (by kernel_rfl) (by kernel_rfl) (by kernel_rfl) (by rw [z]; kernel_rfl) (by kernel_rfl) (by kernel_rfl) (by kernel_rfl) (by decide) (fun _ _ _ _ h hr => TyB.mono _ _ _ _ h hr) (fun _ h => hS0.first h) (steps_of ?_) ?_
  · clear hS0
    refine steps_cons (not_ch (by kernel_rfl) fun _n act w K hS hd ham hdep hK => ?_) ?_
    · skip
      have h0 := (ham 0 (by kernel_rfl)).trans e0
      have HK := Lib.hid (fun v_ w_ (h1_ : _) (h2_ : _) (h3_ : _) => hK v_ w_ h1_ h2_ h3_ (fun h_ => absurd h_ (by decide)))
      have HS := Lib.hid hS
      clear hK ham hdep hS hd
      refine go_plain rfl ?_
      go_simp
      exact HK.out _ w (Below.refl _ _) HS.out rfl
    refine steps_cons (not_ch (by kernel_rfl) fun _n act w K hS hd ham hdep hK => ?_) ?_
    · skip
      have h0 := (ham 0 (by kernel_rfl)).trans e0
      have HK := Lib.hid (fun v_ w_ (h1_ : _) (h2_ : _) (h3_ : _) => hK v_ w_ h1_ h2_ h3_ (fun h_ => absurd h_ (by decide)))
      have HS := Lib.hid hS
      clear hK ham hdep hS hd
      refine go_plain rfl ?_
      go_simp
      exact HK.out _ w (Below.refl _ _) HS.out rfl
    refine steps_cons (not_ch (by kernel_rfl) fun _n act w K hS hd ham hdep hK => ?_) ?_
    · skip
      obtain ⟨x15, h15, t15⟩ := hdep ⟨1, .data⟩ (by simp) rfl 15 rfl
      rw [show x15 = .slice aa k cc from t15] at h15
      clear t15
      have HK := Lib.hid (fun v_ w_ (h1_ : _) (h2_ : _) (h3_ : _) => hK v_ w_ h1_ h2_ h3_ (fun h_ => absurd h_ (by decide)))
      have HS := Lib.hid hS
      clear hK ham hdep hS hd
      refine go_plain rfl ?_
      go_simp
      exact HK.out _ w (Below.refl _ _) HS.out rfl
    refine steps_cons (not_ch (by kernel_rfl) fun _n act w K hS hd ham hdep hK => ?_) ?_
    · skip
      obtain ⟨x16, h16, t16⟩ := hdep ⟨2, .data⟩ (by simp) rfl 16 rfl
      rw [show x16 = .int .i64 (k : Nat) from t16] at h16
      clear t16
      have HK := Lib.hid (fun v_ w_ (h1_ : _) (h2_ : _) (h3_ : _) => hK v_ w_ h1_ h2_ h3_ (fun h_ => absurd h_ (by decide)))
      have HS := Lib.hid hS
      clear hK ham hdep hS hd
      refine go_plain rfl ?_
      go_simp
      exact HK.out _ w (Below.refl _ _) HS.out rfl
    refine steps_cons (not_ch (by kernel_rfl) fun _n act w K hS hd ham hdep hK => ?_) ?_
    · skip
      obtain ⟨x14, h14, t14⟩ := hdep ⟨0, .data⟩ (by simp) rfl 14 rfl
      rw [show x14 = .slice aa k cc from t14] at h14
      clear t14
      obtain ⟨x17, h17, t17⟩ := hdep ⟨3, .data⟩ (by simp) rfl 17 rfl
      rw [show x17 = .int .i64 (N : Nat) from t17] at h17
      clear t17
      have HK := Lib.hid (fun v_ w_ (h1_ : _) (h2_ : _) (h3_ : _) => hK v_ w_ h1_ h2_ h3_ (fun h_ => absurd h_ (by decide)))
      have HS := Lib.hid hS
      clear hK ham hdep hS hd
      refine go_plain rfl ?_
      go_simp
      exact HK.out _ w (Below.refl _ _) HS.out rfl
    refine steps_cons (not_ch (by kernel_rfl) fun _n act w K hS hd ham hdep hK => ?_) ?_
    · skip
      obtain ⟨x18, h18, t18⟩ := hdep ⟨4, .data⟩ (by simp) rfl 18 rfl
      rw [show x18 = .slice aa N cc from t18] at h18
      clear t18
      have HK := Lib.hid (fun v_ w_ (h1_ : _) (h2_ : _) (h3_ : _) => hK v_ w_ h1_ h2_ h3_ (fun h_ => absurd h_ (by decide)))
      have HS := Lib.hid hS
      clear hK ham hdep hS hd
      refine go_plain rfl ?_
      go_simp
      refine (hOf1.out w (fb_call HBK.out HS.out.1)).mono ?_
      rintro e w' ⟨rfl, hb⟩
      exact HK.out _ w' hb (StB.bel HS.out hb) rfl
    refine steps_cons (not_ch (by kernel_rfl) fun _n act w K hS hd ham hdep hK => ?_) ?_
    · skip
      have h1 := (ham 1 (by kernel_rfl)).trans e1
      have HK := Lib.hid (fun v_ w_ (h1_ : _) (h2_ : _) (h3_ : _) => hK v_ w_ h1_ h2_ h3_ (fun h_ => absurd h_ (by decide)))
      have HS := Lib.hid hS
      clear hK ham hdep hS hd
      refine go_plain rfl ?_
      go_simp
      exact HK.out _ w (Below.refl _ _) HS.out rfl
    refine steps_cons (not_ch (by kernel_rfl) fun _n act w K hS hd ham hdep hK => ?_) ?_
    · skip
      have h1 := (ham 1 (by kernel_rfl)).trans e1
      have HK := Lib.hid (fun v_ w_ (h1_ : _) (h2_ : _) (h3_ : _) => hK v_ w_ h1_ h2_ h3_ (fun h_ => absurd h_ (by decide)))
      have HS := Lib.hid hS
      clear hK ham hdep hS hd
      refine go_plain rfl ?_
      go_simp
      exact HK.out _ w (Below.refl _ _) HS.out rfl
    refine steps_cons (not_ch (by kernel_rfl) fun _n act w K hS hd ham hdep hK => ?_) ?_
    · skip
      obtain ⟨x21, h21, t21⟩ := hdep ⟨7, .data⟩ (by simp) rfl 21 rfl
      rw [show x21 = .slice ab j dd from t21] at h21
      clear t21
      have HK := Lib.hid (fun v_ w_ (h1_ : _) (h2_ : _) (h3_ : _) => hK v_ w_ h1_ h2_ h3_ (fun h_ => absurd h_ (by decide)))
      have HS := Lib.hid hS
      clear hK ham hdep hS hd
      refine go_plain rfl ?_
      go_simp
      exact HK.out _ w (Below.refl _ _) HS.out rfl
    refine steps_cons (not_ch (by kernel_rfl) fun _n act w K hS hd ham hdep hK => ?_) ?_
    · skip
      obtain ⟨x22, h22, t22⟩ := hdep ⟨8, .data⟩ (by simp) rfl 22 rfl
      rw [show x22 = .int .i64 (j : Nat) from t22] at h22
      clear t22
      have HK := Lib.hid (fun v_ w_ (h1_ : _) (h2_ : _) (h3_ : _) => hK v_ w_ h1_ h2_ h3_ (fun h_ => absurd h_ (by decide)))
      have HS := Lib.hid hS
      clear hK ham hdep hS hd
      refine go_plain rfl ?_
      go_simp
      exact HK.out _ w (Below.refl _ _) HS.out rfl
    refine steps_cons (not_ch (by kernel_rfl) fun _n act w K hS hd ham hdep hK => ?_) ?_
    · skip
      obtain ⟨x20, h20, t20⟩ := hdep ⟨6, .data⟩ (by simp) rfl 20 rfl
      rw [show x20 = .slice ab j dd from t20] at h20
      clear t20
      obtain ⟨x23, h23, t23⟩ := hdep ⟨9, .data⟩ (by simp) rfl 23 rfl
      rw [show x23 = .int .i64 (M : Nat) from t23] at h23
      clear t23
      have HK := Lib.hid (fun v_ w_ (h1_ : _) (h2_ : _) (h3_ : _) => hK v_ w_ h1_ h2_ h3_ (fun h_ => absurd h_ (by decide)))
      have HS := Lib.hid hS
      clear hK ham hdep hS hd
      refine go_plain rfl ?_
      go_simp
      exact HK.out _ w (Below.refl _ _) HS.out rfl
    refine steps_cons (not_ch (by kernel_rfl) fun _n act w K hS hd ham hdep hK => ?_) ?_
    · skip
      obtain ⟨x24, h24, t24⟩ := hdep ⟨10, .data⟩ (by simp) rfl 24 rfl
      rw [show x24 = .slice ab M dd from t24] at h24
      clear t24
      have HK := Lib.hid (fun v_ w_ (h1_ : _) (h2_ : _) (h3_ : _) => hK v_ w_ h1_ h2_ h3_ (fun h_ => absurd h_ (by decide)))
      have HS := Lib.hid hS
      clear hK ham hdep hS hd
      refine go_plain rfl ?_
      go_simp
      refine (hOf2.out w (fb_call HBK.out HS.out.1)).mono ?_
      rintro e w' ⟨rfl, hb⟩
      exact HK.out _ w' hb (StB.bel HS.out hb) rfl
    refine steps_cons (not_ch (by kernel_rfl) fun _n act w K hS hd ham hdep hK => ?_) ?_
    · skip
      have HK := Lib.hid hK
      have HS := Lib.hid hS
      clear hK ham hdep hS hd
      refine go_plain rfl ?_
      go_simp
      refine HK.out _ _ (fb_alloc (Below.refl _ _) _) (StB.bel HS.out (fb_alloc (Below.refl _ _) _)) ⟨w.heap.size, rfl, by rw [← hn0]; exact HS.out.1.size, Arr.new w _ _⟩ (fun _ jz u hne hg hu => ?_)
      have hju : jz = 12 ∨ jz = 13 := by simpa using hg
      have hju2 : jz = 13 := by omega
      subst hju2
      obtain ⟨Bz, rfl, _, hAz⟩ := hu
      intro e; injection e with e; injection e with e; injection e with e; exact absurd e (Nat.ne_of_lt hAz.lt)
    refine steps_cons (not_ch (by kernel_rfl) fun _n act w K hS hd ham hdep hK => ?_) ?_
    · skip
      have HK := Lib.hid hK
      have HS := Lib.hid hS
      clear hK ham hdep hS hd
      refine go_plain rfl ?_
      go_simp
      refine HK.out _ _ (fb_alloc (Below.refl _ _) _) (StB.bel HS.out (fb_alloc (Below.refl _ _) _)) ⟨w.heap.size, rfl, by rw [← hn0]; exact HS.out.1.size, Arr.new w _ _⟩ (fun _ jz u hne hg hu => ?_)
      have hju : jz = 12 ∨ jz = 13 := by simpa using hg
      have hju2 : jz = 12 := by omega
      subst hju2
      obtain ⟨Bz, rfl, _, hAz⟩ := hu
      intro e; injection e with e; injection e with e; injection e with e; exact absurd e (Nat.ne_of_lt hAz.lt)
    exact steps_done 14 (by omega)
  · intro vs a1 w1 hF hty hdi hS
    obtain ⟨S, hp, hSn, hSA⟩ := hty 12 (by decide)
    obtain ⟨T, hp2, hTn, hTA⟩ := hty 13 (by decide)
    have hne : T ≠ S := fun e => hdi 12 13 (by decide) (by decide) (by decide) (by decide) (by decide) (by rw [hp, hp2, e])
    have hv5 : vs 5 = .agg #[.int .u64 a, .int .u64 b, .int .u64 c, .int .u64 d] := hty 5 (by decide)
    have hv11 : vs 11 = .agg #[.int .u64 a2, .int .u64 b2, .int .u64 c2, .int .u64 d2] := hty 11 (by decide)
    have hlit := hF.lit (D := DSame3) (by kernel_rfl) (by rw [z]; kernel_rfl) (by decide) _ rfl
    rw [HA0.out] at hlit
    have hbl1 := fb_call HBK.out hS.1
    have hwS : w.heap.size ≤ S := Nat.le_trans HBK.out.size (by rw [hn0]; exact hSn)
    have hwT : w.heap.size ≤ T := Nat.le_trans HBK.out.size (by rw [hn0]; exact hTn)
    clear hF hty hdi HA0 z e0 e1 himin e1_ e2_ b1_ b2_ b3_ b4_ hOf1 hOf2 hS0
    simp [putAll, DSame3, Act.put, hp, hp2, hv5, hv11] at hlit
    subst hlit
    clear hp hp2 hv5 hv11
    obtain ⟨s1, s2, s3, s4⟩ := set_stored (wa := w) hbl1 hSA hwS a b c d
    have t4 := s4 _ _ _ hne hTA
    obtain ⟨r1, r2, r3, r4⟩ := set_stored (wa := w) s1 t4 hwT a2 b2 c2 d2
    have r5 := r4 _ _ _ (Ne.symm hne) s2
    have f0 := hSA.frozen 0
    have f1 := hSA.frozen 1
    have f2 := hSA.frozen 2
    have f3 := hSA.frozen 3
    have f4 := hTA.frozen 0
    have f5 := hTA.frozen 1
    have f6 := hTA.frozen 2
    have f7 := hTA.frozen 3
    have g0 : w1.cell? ⟨S, 0, none⟩ = some (.int .u64 0) := hSA.cell 0
    have g1 : w1.cell? ⟨S, 1, none⟩ = some (.int .u64 0) := hSA.cell 1
    have g2 : w1.cell? ⟨S, 2, none⟩ = some (.int .u64 0) := hSA.cell 2
    have g3 : w1.cell? ⟨S, 3, none⟩ = some (.int .u64 0) := hSA.cell 3
    have g4 : w1.cell? ⟨T, 0, none⟩ = some (.int .u64 0) := hTA.cell 0
    have g5 : w1.cell? ⟨T, 1, none⟩ = some (.int .u64 0) := hTA.cell 1
    have g6 : w1.cell? ⟨T, 2, none⟩ = some (.int .u64 0) := hTA.cell 2
    have g7 : w1.cell? ⟨T, 3, none⟩ = some (.int .u64 0) := hTA.cell 3
    have HX := Lib.hid (And.intro r1 (And.intro r5 r2))
    clear r1 r2 r3 r4 r5 s1 s2 s3 s4 t4 hSA hTA hbl1 hwS hwT hS hSn hTn hkc hjd hm hn
    simp only [List.drop_succ_cons, List.drop_zero]
    go_wp2
    clear f0 f1 f2 f3 f4 f5 f6 f7 g0 g1 g2 g3 g4 g5 g6 g7
    generalize ((((((((w1.setCell ⟨S, 0, none⟩ (.int .u64 a)).setCell ⟨S, 1, none⟩ (.int .u64 b)).setCell ⟨S, 2, none⟩ (.int .u64 c)).setCell ⟨S, 3, none⟩ (.int .u64 d)).setCell ⟨T, 0, none⟩ (.int .u64 a2)).setCell ⟨T, 1, none⟩ (.int .u64 b2)).setCell ⟨T, 2, none⟩ (.int .u64 c2)).setCell ⟨T, 3, none⟩ (.int .u64 d2)) = w2 at HX ⊢
    go_loopw [7, 8] (fun y x wr => ∃ i : Nat, i ≤ 256 ∧ x = .int .i64 i ∧ y = .bool (sameTo [a, b, c, d] [a2, b2, c2, d2] i) ∧ Below w2.heap.size w2 wr) (fun _ x _ => 256 - (intOf x).toNat)
    case atStart => exact ⟨0, by omega, rfl, rfl, Below.refl _ _⟩
    case round =>
      obtain ⟨i, hi, rfl, rfl, hbel⟩ := hrel
      obtain ⟨sb, hsb⟩ : ∃ sb, sameTo [a, b, c, d] [a2, b2, c2, d2] i = sb := ⟨_, rfl⟩
      rw [hsb]
      have hSA := HX.out.2.1.below hbel HX.out.2.1.lt
      have hTA := HX.out.2.2.below hbel HX.out.2.2.lt
      by_cases hlt : i < 256
      · obtain ⟨x, hx⟩ : ∃ x, hasB [a, b, c, d] i = x := ⟨_, rfl⟩
        obtain ⟨y, hy⟩ : ∃ y, hasB [a2, b2, c2, d2] i = y := ⟨_, rfl⟩
        have q1 := Lib.hid (show ∀ W : World, Calls Tryd.prog 9 #[.agg #[.int .u64 a, .int .u64 b, .int .u64 c, .int .u64 d], .int .i64 (i : Int)] W fun e w' => e = .returned (.bool x) ∧ Below W.heap.size W w' from fun W => by
          have := bhas_any hwfS.out (i : Int) W
          rw [show hasI [a, b, c, d] (i : Int) = x by unfold hasI; rw [decide_eq_true (by omega), Bool.true_and]; exact hx] at this; exact this)
        have q2 := Lib.hid (show ∀ W : World, Calls Tryd.prog 9 #[.agg #[.int .u64 a2, .int .u64 b2, .int .u64 c2, .int .u64 d2], .int .i64 (i : Int)] W fun e w' => e = .returned (.bool y) ∧ Below W.heap.size W w' from fun W => by
          have := bhas_any hwfT.out (i : Int) W
          rw [show hasI [a2, b2, c2, d2] (i : Int) = y by unfold hasI; rw [decide_eq_true (by omega), Bool.true_and]; exact hy] at this; exact this)
        have hnew : sameTo [a, b, c, d] [a2, b2, c2, d2] (i + 1) = (sb && (x == y)) := by rw [sameTo_succ, hsb, hx, hy]
        have g0 : ∀ u, (lat wr u).cell? ⟨S, 0, none⟩ = some (.int .u64 a) := fun u => (hSA.below (bel_lat0 wr u) hSA.lt).cell 0
        have g1 : ∀ u, (lat wr u).cell? ⟨S, 1, none⟩ = some (.int .u64 b) := fun u => (hSA.below (bel_lat0 wr u) hSA.lt).cell 1
        have g2 : ∀ u, (lat wr u).cell? ⟨S, 2, none⟩ = some (.int .u64 c) := fun u => (hSA.below (bel_lat0 wr u) hSA.lt).cell 2
        have g3 : ∀ u, (lat wr u).cell? ⟨S, 3, none⟩ = some (.int .u64 d) := fun u => (hSA.below (bel_lat0 wr u) hSA.lt).cell 3
        have g4 : ∀ u, (lat wr u).cell? ⟨T, 0, none⟩ = some (.int .u64 a2) := fun u => (hTA.below (bel_lat0 wr u) hTA.lt).cell 0
        have g5 : ∀ u, (lat wr u).cell? ⟨T, 1, none⟩ = some (.int .u64 b2) := fun u => (hTA.below (bel_lat0 wr u) hTA.lt).cell 1
        have g6 : ∀ u, (lat wr u).cell? ⟨T, 2, none⟩ = some (.int .u64 c2) := fun u => (hTA.below (bel_lat0 wr u) hTA.lt).cell 2
        have g7 : ∀ u, (lat wr u).cell? ⟨T, 3, none⟩ = some (.int .u64 d2) := fun u => (hTA.below (bel_lat0 wr u) hTA.lt).cell 3
        have HB := Lib.hid (And.intro hbel hnew)
        clear hsb hx hy hnew hSA hTA hbel
        cases sb
        · go_wp2
          refine wp_region_lat (by kernel_rfl) (by kernel_rfl) ?_
          repeat (go_big_quiet_step (fail))
          refine wpQuiet_nil ?_
          intro _ hw'
          obtain ⟨nu, hw''⟩ := hw'
          subst hw''
          go_wp2
          go_roundw
          case rel => exact ⟨i + 1, by omega, by go_num, by rw [HB.out.2]; rfl, fb_call HB.out.1 (bel_lat0 wr nu)⟩
          case measure => simp [intOf]; omega
        · go_wp2
          refine wp_region_lat (by kernel_rfl) (by kernel_rfl) ?_
          repeat (go_big_quiet_step (first | (go_at_call 9; first | exact quiet_lat (q1.out _) | exact quiet_lat (q2.out _))))
          refine wpQuiet_nil ?_
          intro _ hw'
          obtain ⟨nu, hw''⟩ := hw'
          subst hw''
          go_wp2
          go_roundw
          case rel => exact ⟨i + 1, by omega, by go_num, by rw [HB.out.2, Bool.true_and], fb_call HB.out.1 (bel_lat0 wr nu)⟩
          case measure => simp [intOf]; omega
      · obtain rfl : i = 256 := by omega
        rw [sameTo_all hwfS.out hwfT.out] at hsb
        have hbw := fb_call HX.out.1 hbel
        have hT2 := HTT.out.1.below HTT.out.2 hbw
        have hz2 := Nat.lt_of_lt_of_le HTT.out.2 hbw.size
        have HX2 := Lib.hid (And.intro hSA (And.intro hTA (And.intro hbw (And.intro hT2 (And.intro hz2 hsb)))))
        clear hSA hTA hbw hT2 hz2 hsb hbel HX HTT
        go_upto_region 9 with fail
        refine wp_gen fun a0 w4 ha0 hw4 => ?_
        subst hw4
        obtain ⟨sb, hsb⟩ : ∃ sb, decide ([a, b, c, d] = [a2, b2, c2, d2]) = sb := ⟨_, rfl⟩
        have hEq := Lib.hid (show (((a : Int) == a2) && (((b : Int) == b2) && (((c : Int) == c2) && ((d : Int) == d2)))) = sb by
          rw [← hsb, Bool.eq_iff_iff]; simp; omega)
        obtain ⟨hSA, hTA, hbw, hT2, hz2, hsb2⟩ := HX2.out
        have hS0 : StB w4 w4 := ⟨Below.refl _ _, hT2, hz2⟩
        have z : a0.tmps.size = 81 := by rw [ha0]; rfl
        have e5 : a0.tmps[5]? = some (.pointer (some ⟨S, 0, none⟩)) := by rw [ha0]; rfl
        have e6 : a0.tmps[6]? = some (.pointer (some ⟨T, 0, none⟩)) := by rw [ha0]; rfl
        have e7 : a0.tmps[7]? = some (.bool sb) := by rw [ha0, ← hsb, hsb2]; rfl
        have HA0 := Lib.hid ha0
        clear ha0 hsb hsb2 hbw hT2 hz2
        refine wp_region_typed 13 DSame9 [] [] (fun k_ v_ w_ => ((TLSame9 a b c d a2 b2 c2 d2 sb).getD k_ .any).ok v_ w_) (fun w w' => Below w.heap.size w w') (fun _ w => StB w4 w) (by kernel_rfl) (by kernel_rfl) (by kernel_rfl) (by kernel_rfl) (by rw [z]; kernel_rfl) (by kernel_rfl) (by kernel_rfl) (fun _ _ _ _ h hr => TyB.mono _ _ _ _ h hr) (fun _ h => hS0.first h) (steps_of ?_) ?_
        · clear hS0
          refine steps_cons (not_ch (by kernel_rfl) fun _n act w K hS hd ham hdep hK => ?_) ?_
          · skip
            have h5 := (ham 5 (by kernel_rfl)).trans e5
            have HK := Lib.hid (fun v_ w_ (h1_ : _) (h2_ : _) (h3_ : _) => hK v_ w_ h1_ h2_ h3_ (fun h_ => absurd h_ (by decide)))
            have HS := Lib.hid hS
            clear hK ham hdep hS hd
            refine go_plain rfl ?_
            obtain ⟨c0, c1, c2, c3⟩ := cellsK hSA HS.out.1
            go_simp
            exact HK.out _ w (Below.refl _ _) HS.out rfl
          refine steps_cons (not_ch (by kernel_rfl) fun _n act w K hS hd ham hdep hK => ?_) ?_
          · skip
            have h6 := (ham 6 (by kernel_rfl)).trans e6
            have HK := Lib.hid (fun v_ w_ (h1_ : _) (h2_ : _) (h3_ : _) => hK v_ w_ h1_ h2_ h3_ (fun h_ => absurd h_ (by decide)))
            have HS := Lib.hid hS
            clear hK ham hdep hS hd
            refine go_plain rfl ?_
            obtain ⟨c0, c1, c2, c3⟩ := cellsK hTA HS.out.1
            go_simp
            exact HK.out _ w (Below.refl _ _) HS.out rfl
          refine steps_cons (not_ch (by kernel_rfl) fun _n act w K hS hd ham hdep hK => ?_) ?_
          · skip
            obtain ⟨x40, h40, t40⟩ := hdep ⟨0, .data⟩ (by simp) rfl 40 rfl
            rw [show x40 = .agg #[.int .u64 a, .int .u64 b, .int .u64 c, .int .u64 d] from t40] at h40
            clear t40
            obtain ⟨x41, h41, t41⟩ := hdep ⟨1, .data⟩ (by simp) rfl 41 rfl
            rw [show x41 = .agg #[.int .u64 a2, .int .u64 b2, .int .u64 c2, .int .u64 d2] from t41] at h41
            clear t41
            have HK := Lib.hid (fun v_ w_ (h1_ : _) (h2_ : _) (h3_ : _) => hK v_ w_ h1_ h2_ h3_ (fun h_ => absurd h_ (by decide)))
            have HS := Lib.hid hS
            clear hK ham hdep hS hd
            refine go_plain rfl ?_
            go_simp
            exact HK.out _ w (Below.refl _ _) HS.out (congrArg Value.bool hEq.out)
          refine steps_cons (not_ch (by kernel_rfl) fun _n act w K hS hd ham hdep hK => ?_) ?_
          · skip
            have h7 := (ham 7 (by kernel_rfl)).trans e7
            have HK := Lib.hid (fun v_ w_ (h1_ : _) (h2_ : _) (h3_ : _) => hK v_ w_ h1_ h2_ h3_ (fun h_ => absurd h_ (by decide)))
            have HS := Lib.hid hS
            clear hK ham hdep hS hd
            refine go_plain rfl ?_
            go_simp
            exact HK.out _ w (Below.refl _ _) HS.out rfl
          refine steps_cons (not_ch (by kernel_rfl) fun _n act w K hS hd ham hdep hK => ?_) ?_
          · skip
            obtain ⟨x42, h42, t42⟩ := hdep ⟨2, .data⟩ (by simp) rfl 42 rfl
            rw [show x42 = .bool sb from t42] at h42
            clear t42
            obtain ⟨x43, h43, t43⟩ := hdep ⟨3, .data⟩ (by simp) rfl 43 rfl
            rw [show x43 = .bool sb from t43] at h43
            clear t43
            have HK := Lib.hid (fun v_ w_ (h1_ : _) (h2_ : _) (h3_ : _) => hK v_ w_ h1_ h2_ h3_ (fun h_ => absurd h_ (by decide)))
            have HS := Lib.hid hS
            clear hK ham hdep hS hd
            refine go_plain rfl ?_
            go_simp
            exact HK.out _ w (Below.refl _ _) HS.out rfl
          refine steps_cons (not_ch (by kernel_rfl) fun _n act w K hS hd ham hdep hK => ?_) ?_
          · skip
            obtain ⟨x44, h44, t44⟩ := hdep ⟨4, .data⟩ (by simp) rfl 44 rfl
            rw [show x44 = .bool false from t44] at h44
            clear t44
            have HK := Lib.hid (fun v_ w_ (h1_ : _) (h2_ : _) (h3_ : _) => hK v_ w_ h1_ h2_ h3_ (fun h_ => absurd h_ (by decide)))
            have HS := Lib.hid hS
            clear hK ham hdep hS hd
            refine go_plain rfl ?_
            go_simp
            exact HK.out _ w (Below.refl _ _) HS.out rfl
          refine steps_cons (not_ch (by kernel_rfl) fun _n act w K hS hd ham hdep hK => ?_) ?_
          · skip
            have h5 := (ham 5 (by kernel_rfl)).trans e5
            obtain ⟨x45, h45, t45⟩ := hdep ⟨5, .guard⟩ (by simp) rfl 45 rfl
            rw [show x45 = .bool false from t45] at h45
            clear t45
            have HK := Lib.hid (fun v_ w_ (h1_ : _) (h2_ : _) (h3_ : _) => hK v_ w_ h1_ h2_ h3_ (fun h_ => absurd h_ (by decide)))
            have HS := Lib.hid hS
            clear hK ham hdep hS hd
            refine go_guard 5 45 false rfl rfl h45 ?_
            obtain ⟨c0, c1, c2, c3⟩ := cellsK hSA HS.out.1
            go_simp
            exact HK.out _ w (Below.refl _ _) HS.out rfl
          refine steps_cons (not_ch (by kernel_rfl) fun _n act w K hS hd ham hdep hK => ?_) ?_
          · skip
            obtain ⟨x45, h45, t45⟩ := hdep ⟨5, .chain⟩ (by simp) rfl 45 rfl
            rw [show x45 = .bool false from t45] at h45
            clear t45
            obtain ⟨x46, h46, t46⟩ := hdep ⟨6, .data⟩ (by simp) rfl 46 rfl
            rw [show x46 = .agg #[.int .u64 a, .int .u64 b, .int .u64 c, .int .u64 d] from t46] at h46
            clear t46
            have HK := Lib.hid (fun v_ w_ (h1_ : _) (h2_ : _) (h3_ : _) => hK v_ w_ h1_ h2_ h3_ (fun h_ => absurd h_ (by decide)))
            have HS := Lib.hid hS
            clear hK ham hdep hS hd
            refine go_guard 5 45 false rfl rfl h45 ?_
            go_simp
            refine (blen_any hwfS.out w).mono ?_
            rintro e w' ⟨rfl, hb⟩
            exact HK.out _ w' hb (StB.bel HS.out hb) rfl
          refine steps_cons (not_ch (by kernel_rfl) fun _n act w K hS hd ham hdep hK => ?_) ?_
          · skip
            have h5 := (ham 5 (by kernel_rfl)).trans e5
            obtain ⟨x45, h45, t45⟩ := hdep ⟨5, .guard⟩ (by simp) rfl 45 rfl
            rw [show x45 = .bool false from t45] at h45
            clear t45
            have HK := Lib.hid (fun v_ w_ (h1_ : _) (h2_ : _) (h3_ : _) => hK v_ w_ h1_ h2_ h3_ (fun h_ => absurd h_ (by decide)))
            have HS := Lib.hid hS
            clear hK ham hdep hS hd
            refine go_guard 5 45 false rfl rfl h45 ?_
            obtain ⟨c0, c1, c2, c3⟩ := cellsK hSA HS.out.1
            go_simp
            exact HK.out _ w (Below.refl _ _) HS.out rfl
          refine steps_cons (not_ch (by kernel_rfl) fun _n act w K hS hd ham hdep hK => ?_) ?_
          · skip
            obtain ⟨x45, h45, t45⟩ := hdep ⟨5, .guard⟩ (by simp) rfl 45 rfl
            rw [show x45 = .bool false from t45] at h45
            clear t45
            obtain ⟨x48, h48, t48⟩ := hdep ⟨8, .data⟩ (by simp) rfl 48 rfl
            rw [show x48 = .agg #[.int .u64 a, .int .u64 b, .int .u64 c, .int .u64 d] from t48] at h48
            clear t48
            have HK := Lib.hid (fun v_ w_ (h1_ : _) (h2_ : _) (h3_ : _) => hK v_ w_ h1_ h2_ h3_ (fun h_ => absurd h_ (by decide)))
            have HS := Lib.hid hS
            clear hK ham hdep hS hd
            refine go_guard 5 45 false rfl rfl h45 ?_
            go_simp
            refine (ball_any hwfS.out w HS.out.2.1 HS.out.2.2).mono ?_
            rintro e w' ⟨v, rfl, hI, hb⟩
            exact HK.out _ w' hb (StB.bel HS.out hb) hI
          refine steps_cons (not_ch (by kernel_rfl) fun _n act w K hS hd ham hdep hK => ?_) ?_
          · skip
            obtain ⟨x45, h45, t45⟩ := hdep ⟨5, .guard⟩ (by simp) rfl 45 rfl
            rw [show x45 = .bool false from t45] at h45
            clear t45
            obtain ⟨x49, h49, t49⟩ := hdep ⟨9, .data⟩ (by simp) rfl 49 rfl
            have t49 := Lib.hid t49
            have HK := Lib.hid (fun v_ w_ (h1_ : _) (h2_ : _) (h3_ : _) => hK v_ w_ h1_ h2_ h3_ (fun h_ => absurd h_ (by decide)))
            have HS := Lib.hid hS
            clear hK ham hdep hS hd
            refine go_guard 5 45 false rfl rfl h45 ?_
            obtain ⟨av, cv, hvl⟩ := ints_form t49.out
            rw [hvl] at h49
            clear hvl
            go_simp
            exact HK.out _ w (Below.refl _ _) HS.out rfl
          refine steps_cons (not_ch (by kernel_rfl) fun _n act w K hS hd ham hdep hK => ?_) ?_
          · skip
            obtain ⟨x45, h45, t45⟩ := hdep ⟨5, .guard⟩ (by simp) rfl 45 rfl
            rw [show x45 = .bool false from t45] at h45
            clear t45
            obtain ⟨x47, h47, t47⟩ := hdep ⟨7, .data⟩ (by simp) rfl 47 rfl
            rw [show x47 = .int .i64 ((lst [a, b, c, d]).length : Nat) from t47] at h47
            clear t47
            obtain ⟨x50, h50, t50⟩ := hdep ⟨10, .data⟩ (by simp) rfl 50 rfl
            rw [show x50 = .int .i64 ((lst [a, b, c, d]).length : Nat) from t50] at h50
            clear t50
            have HK := Lib.hid (fun v_ w_ (h1_ : _) (h2_ : _) (h3_ : _) => hK v_ w_ h1_ h2_ h3_ (fun h_ => absurd h_ (by decide)))
            have HS := Lib.hid hS
            clear hK ham hdep hS hd
            refine go_guard 5 45 false rfl rfl h45 ?_
            go_simp
            exact HK.out _ w (Below.refl _ _) HS.out rfl
          refine steps_cons (not_ch (by kernel_rfl) fun _n act w K hS hd ham hdep hK => ?_) ?_
          · skip
            obtain ⟨x45, h45, t45⟩ := hdep ⟨5, .data⟩ (by simp) rfl 45 rfl
            rw [show x45 = .bool false from t45] at h45
            clear t45
            obtain ⟨x51, h51, t51⟩ := hdep ⟨11, .data⟩ (by simp) rfl 51 rfl
            rw [show x51 = .bool false from t51] at h51
            clear t51
            have HK := Lib.hid (fun v_ w_ (h1_ : _) (h2_ : _) (h3_ : _) => hK v_ w_ h1_ h2_ h3_ (fun h_ => absurd h_ (by decide)))
            have HS := Lib.hid hS
            clear hK ham hdep hS hd
            refine go_plain rfl ?_
            go_simp
            exact HK.out _ w (Below.refl _ _) HS.out rfl
          exact steps_done 13 (by omega)
        · intro vs a1 w5 hF hty hdi hS
          have hv12 : vs 12 = .bool false := hty 12 (by decide)
          have hlit := hF.lit (D := DSame9) (by kernel_rfl) (by rw [z]; kernel_rfl) (by decide) _ rfl
          rw [HA0.out] at hlit
          have hX3 := Lib.hid (And.intro (hSA.below hS.1 hSA.lt) (And.intro (fb_call HX2.out.2.2.1 hS.1) (And.intro hS.2.1 hS.2.2)))
          clear hF hty hdi HA0 z e5 e6 e7 hS0 hSA hTA HX2 hS hwfT hEq
          simp [putAll, DSame9, Act.put, hv12] at hlit
          subst hlit
          clear hv12
          have g0 : w5.cell? ⟨S, 0, none⟩ = some (.int .u64 a) := hX3.out.1.cell 0
          have g1 : w5.cell? ⟨S, 1, none⟩ = some (.int .u64 b) := hX3.out.1.cell 1
          have g2 : w5.cell? ⟨S, 2, none⟩ = some (.int .u64 c) := hX3.out.1.cell 2
          have g3 : w5.cell? ⟨S, 3, none⟩ = some (.int .u64 d) := hX3.out.1.cell 3
          go_upto_region 12 with (go_at_call 20; refine (ball_any hwfS.out w5 hX3.out.2.2.1 hX3.out.2.2.2).mono ?_; rintro e w6 ⟨vl, rfl, hIl, hb6⟩; obtain ⟨av, cv, hvl⟩ := ints_form hIl; subst hvl)
          have hA6 := hX3.out.1.below hb6 hX3.out.1.lt
          have hX4 := Lib.hid (And.intro hA6 (And.intro (fb_call hX3.out.2.1 hb6) (And.intro (hX3.out.2.2.1.below hX3.out.2.2.2 hb6) (And.intro (Nat.lt_of_lt_of_le hX3.out.2.2.2 hb6.size) hIl))))
          clear hX3 hb6 hA6 hIl g0 g1 g2 g3
          have g0 : w6.cell? ⟨S, 0, none⟩ = some (.int .u64 a) := hX4.out.1.cell 0
          have g1 : w6.cell? ⟨S, 1, none⟩ = some (.int .u64 b) := hX4.out.1.cell 1
          have g2 : w6.cell? ⟨S, 2, none⟩ = some (.int .u64 c) := hX4.out.1.cell 2
          have g3 : w6.cell? ⟨S, 3, none⟩ = some (.int .u64 d) := hX4.out.1.cell 3
          go_wp2_with (go_at_call 17; refine (bnext_any hwfS.out 0 (by omega) w6 hX4.out.2.2.1 hX4.out.2.2.2.1).mono ?_; rintro e w7 ⟨v7, rfl, hv7, hb7⟩)
          have hA7 := hX4.out.1.below hb7 hX4.out.1.lt
          have hI7 := ints_later hX4.out.2.2.2.2 hb7
          have hX5 := Lib.hid (And.intro hA7 (And.intro (fb_call hX4.out.2.1 hb7) (And.intro (hX4.out.2.2.1.below hX4.out.2.2.2.1 hb7) (And.intro (Nat.lt_of_lt_of_le hX4.out.2.2.2.1 hb7.size) hI7))))
          have hv0 := at_zero (S := [a, b, c, d]) hv7
          have hLL := lst_le [a, b, c, d]
          have HV := Lib.hid (And.intro hv0 hLL)
          clear hX4 hb7 hA7 hI7 g0 g1 g2 g3 hv7 hv0 hLL
          go_loopw [10, 11] (fun y x wr => ∃ (i : Nat) (v : Int), x = .int .i64 i ∧ y = .int .i64 v ∧ Hid (AtR [a, b, c, d] i v) ∧ i ≤ (lst [a, b, c, d]).length ∧ Below w7.heap.size w7 wr) (fun _ x _ => (lst [a, b, c, d]).length - (intOf x).toNat)
          case atStart => exact ⟨0, v7, rfl, rfl, Lib.hid HV.out.1, Nat.zero_le _, Below.refl _ _⟩
          case round =>
            obtain ⟨i, v, rfl, rfl, hat, hi, hbel⟩ := hrel
            have hLL := HV.out.2
            obtain ⟨n, hn⟩ : ∃ n, (lst [a, b, c, d]).length = n := ⟨_, rfl⟩
            by_cases hlt : i < (lst [a, b, c, d]).length
            · obtain ⟨j, rfl, hj, hget, hhas, hstep⟩ := at_step hat.out hlt
              obtain ⟨bl, o, cl, e, hb, hc⟩ := ints_cell hX5.out.2.2.2.2 hlt
              cases e
              have hc1 := hc i hlt
              rw [hget] at hc1
              have hA8 := hX5.out.1.below hbel hX5.out.1.lt
              have hc2 := (hbel.cell (p := ⟨bl, o + i, none⟩) hb).trans hc1
              have q1 := Lib.hid (show ∀ W : World, Calls Tryd.prog 9 #[.agg #[.int .u64 a, .int .u64 b, .int .u64 c, .int .u64 d], .int .i64 (j : Int)] W fun e w' => e = .returned (.bool true) ∧ Below W.heap.size W w' from fun W => by
                have := bhas_any hwfS.out (j : Int) W
                rw [show hasI [a, b, c, d] (j : Int) = true by unfold hasI; rw [decide_eq_true (by omega), Bool.true_and]; exact hhas] at this; exact this)
              have g0 : ∀ u, (lat wr u).cell? ⟨S, 0, none⟩ = some (.int .u64 a) := fun u => (hA8.below (bel_lat0 wr u) hA8.lt).cell 0
              have g1 : ∀ u, (lat wr u).cell? ⟨S, 1, none⟩ = some (.int .u64 b) := fun u => (hA8.below (bel_lat0 wr u) hA8.lt).cell 1
              have g2 : ∀ u, (lat wr u).cell? ⟨S, 2, none⟩ = some (.int .u64 c) := fun u => (hA8.below (bel_lat0 wr u) hA8.lt).cell 2
              have g3 : ∀ u, (lat wr u).cell? ⟨S, 3, none⟩ = some (.int .u64 d) := fun u => (hA8.below (bel_lat0 wr u) hA8.lt).cell 3
              have g4 : ∀ u, (lat wr u).cell? ⟨bl, o + i, none⟩ = some (.int .i64 (j : Int)) := fun u => ((bel_lat0 wr u).cell (p := ⟨bl, o + i, none⟩) (World.block_lt_of_cell? _ _ hc2)).trans hc2
              have hi1 : (i : Int) < (lst [a, b, c, d]).length := by omega
              have hi0 : (0 : Int) ≤ i := by omega
              have hT8 := hX5.out.2.2.1.below hX5.out.2.2.2.1 hbel
              have hz8 := Nat.lt_of_lt_of_le hX5.out.2.2.2.1 hbel.size
              have k0 : wr.cell? ⟨S, 0, none⟩ = some (.int .u64 a) := hA8.cell 0
              have k1 : wr.cell? ⟨S, 1, none⟩ = some (.int .u64 b) := hA8.cell 1
              have k2 : wr.cell? ⟨S, 2, none⟩ = some (.int .u64 c) := hA8.cell 2
              have k3 : wr.cell? ⟨S, 3, none⟩ = some (.int .u64 d) := hA8.cell 3
              have k4 := hc2
              have HN := Lib.hid (fun nu => bnext_any hwfS.out ((j : Int) + 1) (by omega) (lat wr nu) (hT8.below hz8 (bel_lat0 wr nu)) (Nat.lt_of_lt_of_le hz8 (size_lat wr nu)))
              have HB := Lib.hid (And.intro hbel (And.intro hstep (And.intro hT8 hz8)))
              clear hat hget hhas hstep hc hc1 hA8 hc2 hbel hT8 hz8 hb hn g4
              go_wp2_with (first | (go_at_call 9; refine (calls_lat (q1.out wr)).mono ?_; rintro e w' ⟨rfl, nu, rfl⟩) | (go_at_call 17; refine (HN.out _).mono ?_; rintro e w9 ⟨v9, rfl, hv9, hb9⟩))
              go_roundw
              case rel => exact ⟨i + 1, v9, by go_num, rfl, Lib.hid (HB.out.2.1 v9 hv9), by omega, fb_call (fb_call HB.out.1 (bel_lat0 wr nu)) hb9⟩
              case measure => simp [intOf]; omega
            · obtain rfl : i = (lst [a, b, c, d]).length := by omega
              obtain rfl : v = -1 := at_end hat.out
              have HB := Lib.hid hbel
              clear hat hbel hn
              go_wp2
              go_ret
              exact ⟨rfl, fb_call hX5.out.2.1 HB.out⟩
end Go.Proofs.YtikoabnonmkhkaaDoor
