/- What lies apart: memory by colours, and what is known of each. No condition. -/
import Derived.Test.YtcgadmeagbcbnaaDoorTrailTr
import Derived.Test.YtcgadmeagbcbnaaDoorArr
namespace Go.Proofs.YtcgadmeagbcbnaaDoor
open Go.RowKit

/-- P says only what the blocks of colour c hold. -/
def Res (w : World) (col : Nat → Nat) (c : Nat) (P : World → Prop) : Prop := ∀ w' : World, (∀ k, k < w.heap.size → col k = c → w'.heap[k]? = w.heap[k]?) → P w'
/-- New blocks have the colour a. -/
def recol (n : Nat) (col : Nat → Nat) (a k : Nat) : Nat := if k < n then col k else a
theorem recol_lt {n : Nat} {col : Nat → Nat} {a k : Nat} (h : k < n) : recol n col a k = col k := if_pos h
theorem recol_ge {n : Nat} {col : Nat → Nat} {a k : Nat} (h : n ≤ k) : recol n col a k = a := if_neg (by omega)
theorem Res.now {w : World} {col : Nat → Nat} {c : Nat} {P : World → Prop} (h : Res w col c P) : P w := h w fun _ _ _ => rfl
theorem Res.imp {w : World} {col : Nat → Nat} {c : Nat} {P Q : World → Prop} (h : Res w col c P) (hi : ∀ w', P w' → Q w') : Res w col c Q := fun w' hw => hi _ (h w' hw)
theorem Res.and {w : World} {col : Nat → Nat} {c : Nat} {P Q : World → Prop} (h : Res w col c P) (h' : Res w col c Q) : Res w col c (fun w' => P w' ∧ Q w') := fun w' hw => ⟨h w' hw, h' w' hw⟩
/-- A step that wrote only what has the colour a. -/
theorem Res.step {w w' : World} {col : Nat → Nat} {c a : Nat} {P : World → Prop} {O : Nat → Prop} (h : Res w col c P) (hm : Moved w w' O) (hO : ∀ k, O k → k < w.heap.size → col k = a) (hne : c ≠ a) : Res w' (recol w.heap.size col a) c P := by
  intro w2 h2
  refine h w2 fun k hk hc => ?_
  have h3 := h2 k (Nat.lt_of_lt_of_le hk hm.size) ((recol_lt hk).trans hc)
  exact h3.trans (hm.block k hk (fun ho => hne (hc.symm.trans (hO k ho hk))))
/-- A step that made memory only. -/
theorem Res.made {w w' : World} {col : Nat → Nat} {c : Nat} (a : Nat) {P : World → Prop} (h : Res w col c P) (hm : Below w.heap.size w w') : Res w' (recol w.heap.size col a) c P := by
  intro w2 h2
  refine h w2 fun k hk hc => ?_
  have h3 := h2 k (Nat.lt_of_lt_of_le hk hm.size) ((recol_lt hk).trans hc)
  exact h3.trans (hm.block k hk)
theorem Res.mk' {w : World} {col : Nat → Nat} {c : Nat} {P : World → Prop} {S : Nat → Prop} (hS : ∀ k, S k → k < w.heap.size ∧ col k = c) (h : ∀ w' : World, (∀ k, S k → w'.heap[k]? = w.heap[k]?) → P w') : Res w col c P :=
  fun w' hw => h w' fun k hk => hw k (hS k hk).1 (hS k hk).2
/-- An own row stays where its block does. -/
theorem ownsRow_block {w w' : World} {base : Nat} {e : TypeId} {size n : Nat} {v : Value} {xs : List Value} (h : w.ownsRow base e size v n xs) (hk : ∀ k, v.ownBlock = some k → w'.heap[k]? = w.heap[k]?) : w'.ownsRow base e size v n xs := by
  refine ⟨h.1, ?_⟩
  rcases h.2 with hn | ⟨g, cap, cur, hv, hbs, hg, rest⟩
  · exact .inl hn
  · exact .inr ⟨g, cap, cur, hv, hbs, (hk g (by rw [hv]; rfl)).trans hg, rest⟩
theorem Res.row {w : World} {col : Nat → Nat} {c base : Nat} {e : TypeId} {size n : Nat} {v : Value} {xs : List Value} (h : w.ownsRow base e size v n xs) (hc : ∀ k, v.ownBlock = some k → col k = c) : Res w col c (fun w' => w'.ownsRow base e size v n xs) :=
  fun _ hw => ownsRow_block h fun k hk => hw k (World.ownsRow.lt h k hk).2 (hc k hk)
theorem Res.irow {w : World} {col : Nat → Nat} {c base : Nat} {v : Value} {l : List Int} (h : IRow w base v l) (hc : ∀ k, v.ownBlock = some k → col k = c) : Res w col c (fun w' => IRow w' base v l) := Res.row h hc
theorem Res.arr {w : World} {col : Nat → Nat} {c B : Nat} {t : TypeId} {vs : List Value} (h : Arr w B t vs) (hc : col B = c) : Res w col c (fun w' => Arr w' B t vs) :=
  fun _ hw => (hw B h.lt hc).trans h
theorem TrAt.block {w w' : World} {base T : Nat} {ao bo : Option Addr} {ca cb : Nat} {cs : List Int} {hs : List (Int × Int)} (h : TrAt w base T ao bo ca cb cs hs) (hk : ∀ k, ownT T ao bo k → w'.heap[k]? = w.heap[k]?) : TrAt w' base T ao bo ca cb cs hs :=
  ⟨h.hT, (hk T (.inl rfl)).trans h.blk, ownsRow_block h.cells (fun k e => hk k (.inr (.inl (by rw [own_block] at e; exact e)))), ownsRow_block h.chs (fun k e => hk k (.inr (.inr (by rw [own_block] at e; exact e))))⟩
theorem TrS.moved {w0 w w' : World} {T : Nat} {O S : Nat → Prop} {cs : List Int} {hs : List (Int × Int)} (h : TrS w0 w T O cs hs) (hm : Moved w w' S) (hb : Below w0.heap.size w0 w') (hd : ∀ k, O k → ¬ S k) : TrS w0 w' T O cs hs := by
  have hS := h
  obtain ⟨h1, h2, h3, ao, bo, ca, cb, rfl, h4⟩ := h
  exact ⟨hb, h2, h3, ao, bo, ca, cb, rfl, h4.block fun k hk => hm.block k (hS.base hk).2 (hd k hk)⟩
/-- A trail of the colour c. -/
def TrC (w0 w : World) (col : Nat → Nat) (c T : Nat) (cs : List Int) (hs : List (Int × Int)) : Prop := ∃ O, (∀ k, O k → col k = c) ∧ TrS w0 w T O cs hs
theorem TrC.step {w0 w w' : World} {col : Nat → Nat} {c a T : Nat} {cs : List Int} {hs : List (Int × Int)} {S : Nat → Prop} (h : TrC w0 w col c T cs hs) (hm : Moved w w' S) (hb : Below w0.heap.size w0 w') (hS : ∀ k, S k → k < w.heap.size → col k = a) (hne : c ≠ a) : TrC w0 w' (recol w.heap.size col a) c T cs hs := by
  obtain ⟨O, h1, h2⟩ := h
  exact ⟨O, fun k hk => (recol_lt (h2.base hk).2).trans (h1 k hk), h2.moved hm hb (fun k hk hs => hne ((h1 k hk).symm.trans (hS k hs (h2.base hk).2)))⟩
theorem TrC.made {w0 w w' : World} {col : Nat → Nat} {c T : Nat} (a : Nat) {cs : List Int} {hs : List (Int × Int)} (h : TrC w0 w col c T cs hs) (hm : Below w.heap.size w w') : TrC w0 w' (recol w.heap.size col a) c T cs hs := by
  obtain ⟨O, h1, h2⟩ := h
  exact ⟨O, fun k hk => (recol_lt (h2.base hk).2).trans (h1 k hk), h2.below hm⟩
theorem TrC.own {w0 w w' : World} {col : Nat → Nat} {c T : Nat} {O : Nat → Prop} {cs cs' : List Int} {hs hs' : List (Int × Int)} (h1 : ∀ k, O k → col k = c) (h : TrS w0 w T O cs hs) (hn : TrN w0 w w' T O cs' hs') : TrC w0 w' (recol w.heap.size col c) c T cs' hs' := by
  obtain ⟨O', h2, h3⟩ := hn.st
  refine ⟨O', fun k hk => ?_, h2⟩
  rcases h3 k hk with h4 | h4
  · exact (recol_lt (h.base h4).2).trans (h1 k h4)
  · exact recol_ge h4
theorem TrC.bel {w0 w : World} {col : Nat → Nat} {c T : Nat} {cs : List Int} {hs : List (Int × Int)} (h : TrC w0 w col c T cs hs) : Below w0.heap.size w0 w := by obtain ⟨O, _, h2⟩ := h; exact h2.bel
end Go.Proofs.YtcgadmeagbcbnaaDoor
