/- The walks of an arena's readers: At, Slot, Valid, Len. No condition. -/
import Derived.Test.YtfkkkndigkchcaaArenaA
import Derived.Test.YtfkkkndigkchcaaArenaBits
namespace Go.Proofs.Ytfkkkndigkchcaa
open Go.RowKit
attribute [local irreducible] Calls

/-- A slot's handle. -/
def atV (cs : List Int) (base cap : Nat) (s : Int) : Int :=
  if 0 ≤ s ∧ s < cap then (if getZ cs (base + 2 + 2 * s) % 2 = 0 then 0 else getZ cs (base + 2 + 2 * s) / 2 * 256 + s) else 0
section
variable {w0 w : World} {A Bb Ba T base cap : Nat} {O : Nat → Prop} {cs : List Int} {hs : List (Int × Int)}
theorem at_out (h : ArF w A Bb Ba T base cap) (s : Int) (hs : s < 0 ∨ cap ≤ s) : Calls Try.prog 55 #[.pointer (some ⟨A, 0, none⟩), .int .i64 s] w fun e w' => e = .returned (.int .i64 0) ∧ Below w.heap.size w w' := by
  have c5 : w.cell? ⟨A, 5, none⟩ = some (.int .i64 (cap : Int)) := h.a.cell 5
  have hn := Lib.hid (none_any h)
  clear h
  rcases hs with hs | hs
  · go_enter Try.func55, Try.ntmps55
    go_wp2_with (go_at_call 83; refine hn.out.mono ?_; rintro e w' ⟨rfl, rfl⟩)
    go_ret
    exact ⟨rfl, Below.refl _ _⟩
  · have h0 : 0 ≤ s := by omega
    go_enter Try.func55, Try.ntmps55
    go_wp2_with (go_at_call 83; refine hn.out.mono ?_; rintro e w' ⟨rfl, rfl⟩)
    go_ret
    exact ⟨rfl, Below.refl _ _⟩
theorem at_in (h : ArF w A Bb Ba T base cap) (ht : TrS w0 w T O cs hs) (s : Int) (h0 : 0 ≤ s) (h1 : s < cap) (hc : cap ≤ 256) (hb : base ≤ 1048576) (g : Int) (hg : getZ cs (base + 2 + 2 * s) = g) (g0 : 0 ≤ g) (g1 : g ≤ 1099511627776) :
    Calls Try.prog 55 #[.pointer (some ⟨A, 0, none⟩), .int .i64 s] w fun e w' => e = .returned (.int .i64 (if g % 2 = 0 then 0 else g / 2 * 256 + s)) ∧ Below w.heap.size w w' := by
  have c5 : w.cell? ⟨A, 5, none⟩ = some (.int .i64 (cap : Int)) := h.a.cell 5
  have k0 : ∀ u, (lat w u).cell? ⟨A, 0, none⟩ = some (.pointer (some ⟨T, 0, none⟩)) := fun u => (h.a.below (bel_lat0 w u) h.a.lt).cell 0
  have k1 : ∀ u, (lat w u).cell? ⟨A, 1, none⟩ = some (.func (.func 81) #[] #[.pointer (some ⟨Bb, 0, none⟩)]) := fun u => (h.a.below (bel_lat0 w u) h.a.lt).cell 1
  have hn := Lib.hid (none_any h)
  have hgn := Lib.hid (fun u => gens_any (h.below (bel_lat0 w u)) s hb (by omega) (by omega))
  have hgt := Lib.hid (fun u => hg ▸ tr_get (ht.below (bel_lat0 w u)) ((base : Int) + 2 + 2 * s))
  obtain ⟨R, hR⟩ : ∃ R : Int, (if g % 2 = 0 then 0 else g / 2 * 256 + s) = R := ⟨_, rfl⟩
  rw [hR]
  have HR := Lib.hid hR
  clear h ht hg hR
  go_enter Try.func55, Try.ntmps55
  go_upto_region 3 with (go_at_call 83; refine hn.out.mono ?_; rintro e w' ⟨rfl, rfl⟩)
  refine wp_region_lat (by kernel_rfl) (by kernel_rfl) ?_
  repeat (go_big_quiet_step (first | (go_at_call 81; exact quiet_lat_same (hgn.out _)) | (go_at_call 30; exact quiet_lat_same (hgt.out _))))
  refine wpQuiet_nil ?_
  intro _ hw'
  obtain ⟨nu, hw''⟩ := hw'
  subst hw''
  have h256 := handle_or (g / 2).toNat s.toNat (by omega) (by omega)
  rw [show (((g / 2).toNat : Nat) : Int) = g / 2 by omega, show ((s.toNat : Nat) : Int) = s by omega] at h256
  have hand := i64_and1 g
  by_cases hg2 : g % 2 = 0
  · rw [hg2] at hand
    have HG := Lib.hid hg2
    clear hg2
    go_wp2
    go_ret
    exact ⟨ret_i64 (by rw [← HR.out, if_pos HG.out]), bel_lat0 w nu⟩
  · have hg3 : ((g % 2 == 0) : Bool) = false := by simpa using hg2
    have HG := Lib.hid hg2
    clear hg2
    go_wp2
    go_ret
    exact ⟨ret_i64 (by rw [← HR.out, if_neg HG.out]), bel_lat0 w nu⟩
/-- What the numbers in an arena's cells are: generations that are not great. -/
def genOk (cs : List Int) (base cap : Nat) : Prop := ∀ s : Nat, s < cap → 0 ≤ getZ cs (base + 2 + 2 * (s : Int)) ∧ getZ cs (base + 2 + 2 * (s : Int)) ≤ 1099511627776
theorem at_any (h : ArF w A Bb Ba T base cap) (ht : TrS w0 w T O cs hs) (s : Int) (hc : cap ≤ 256) (hb : base ≤ 1048576) (hg : genOk cs base cap) :
    Calls Try.prog 55 #[.pointer (some ⟨A, 0, none⟩), .int .i64 s] w fun e w' => e = .returned (.int .i64 (atV cs base cap s)) ∧ Below w.heap.size w w' := by
  by_cases hs : 0 ≤ s ∧ s < cap
  · have e : atV cs base cap s = if getZ cs (base + 2 + 2 * s) % 2 = 0 then 0 else getZ cs (base + 2 + 2 * s) / 2 * 256 + s := if_pos hs
    rw [e]
    have hg' := hg s.toNat (by omega)
    rw [show ((s.toNat : Nat) : Int) = s by omega] at hg'
    exact at_in h ht s hs.1 hs.2 hc hb _ rfl hg'.1 hg'.2
  · have e : atV cs base cap s = 0 := if_neg hs
    rw [e]
    exact at_out h s (by omega)
/-- A handle's slot. -/
def slotV (cs : List Int) (base cap : Nat) (h : Int) : Int := if h ≤ 0 ∨ atV cs base cap (h % 256) ≠ h then -1 else h % 256
theorem slot_any (h : ArF w A Bb Ba T base cap) (ht : TrS w0 w T O cs hs) (z : Int) (hc : cap ≤ 256) (hb : base ≤ 1048576) (hg : genOk cs base cap) :
    Calls Try.prog 54 #[.pointer (some ⟨A, 0, none⟩), .int .i64 z] w fun e w' => e = .returned (.int .i64 (slotV cs base cap z)) ∧ Below w.heap.size w w' := by
  have ha := Lib.hid (calls_lat (at_any h ht (z % 256) hc hb hg))
  have hand := i64_and255 z
  obtain ⟨v, hv⟩ : ∃ v, atV cs base cap (z % 256) = v := ⟨_, rfl⟩
  rw [hv] at ha
  have HV := Lib.hid hv
  clear hv h ht hg
  by_cases hz : z ≤ 0
  · go_enter Try.func54, Try.ntmps54
    go_wp2
    go_ret
    exact ⟨ret_i64 (by unfold slotV; rw [if_pos (.inl hz)]), Below.refl _ _⟩
  · by_cases he : v = z
    · have he' : ((v != z) : Bool) = false := by simp [he]
      have HE := Lib.hid he
      clear he
      go_enter Try.func54, Try.ntmps54
      go_wp2_with (go_at_call 55; refine ha.out.mono ?_; rintro e w' ⟨rfl, nu, rfl⟩)
      go_ret
      exact ⟨ret_i64 (by unfold slotV; rw [if_neg (by rw [HV.out]; exact fun h => h.elim (fun h => by omega) (fun h => h HE.out))]), bel_lat0 w nu⟩
    · have he' : ((v != z) : Bool) = true := by simp [he]
      have HE := Lib.hid he
      clear he
      go_enter Try.func54, Try.ntmps54
      go_wp2_with (go_at_call 55; refine ha.out.mono ?_; rintro e w' ⟨rfl, nu, rfl⟩)
      go_ret
      exact ⟨ret_i64 (by unfold slotV; rw [if_pos (.inr (by rw [HV.out]; exact HE.out))]), bel_lat0 w nu⟩
theorem valid_any (h : ArF w A Bb Ba T base cap) (ht : TrS w0 w T O cs hs) (z : Int) (hc : cap ≤ 256) (hb : base ≤ 1048576) (hg : genOk cs base cap) :
    Calls Try.prog 52 #[.pointer (some ⟨A, 0, none⟩), .int .i64 z] w fun e w' => e = .returned (.bool (decide (0 ≤ slotV cs base cap z))) ∧ Below w.heap.size w w' := by
  have ha := Lib.hid (calls_lat (slot_any h ht z hc hb hg))
  obtain ⟨v, hv⟩ : ∃ v, slotV cs base cap z = v := ⟨_, rfl⟩
  rw [hv] at ha ⊢
  clear hv h ht hg
  go_enter Try.func52, Try.ntmps52
  go_wp2_with (go_at_call 54; refine ha.out.mono ?_; rintro e w' ⟨rfl, nu, rfl⟩)
  go_ret
  exact ⟨rfl, bel_lat0 w nu⟩
theorem alen_any (h : ArF w A Bb Ba T base cap) (ht : TrS w0 w T O cs hs) :
    Calls Try.prog 57 #[.pointer (some ⟨A, 0, none⟩)] w fun e w' => e = .returned (.int .i64 (getZ cs ((base : Int) + 1))) ∧ Below w.heap.size w w' := by
  have k0 : ∀ u, (lat w u).cell? ⟨A, 0, none⟩ = some (.pointer (some ⟨T, 0, none⟩)) := fun u => (h.a.below (bel_lat0 w u) h.a.lt).cell 0
  have k1 : ∀ u, (lat w u).cell? ⟨A, 4, none⟩ = some (.int .i64 ((base : Int) + 1)) := fun u => (h.a.below (bel_lat0 w u) h.a.lt).cell 4
  have hn := Lib.hid (none_any h)
  have hgt := Lib.hid (fun u => tr_get (ht.below (bel_lat0 w u)) ((base : Int) + 1))
  obtain ⟨v, hv⟩ : ∃ v, getZ cs ((base : Int) + 1) = v := ⟨_, rfl⟩
  rw [hv] at hgt ⊢
  clear h ht hv
  go_enter Try.func57, Try.ntmps57
  go_upto_region 3 with (go_at_call 83; refine hn.out.mono ?_; rintro e w' ⟨rfl, rfl⟩)
  refine wp_region_lat (by kernel_rfl) (by kernel_rfl) ?_
  repeat (go_big_quiet_step (first | (go_at_call 30; exact quiet_lat_same (hgt.out _))))
  refine wpQuiet_nil ?_
  intro _ hw'
  obtain ⟨nu, hw''⟩ := hw'
  subst hw''
  go_wp2
  go_ret
  exact ⟨rfl, bel_lat0 w nu⟩
end
end Go.Proofs.Ytfkkkndigkchcaa
