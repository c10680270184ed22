/-
  Words for what a law's body holds: ints between two marks, and boxes.
-/
import Derived.Test.YtgmkkajdmbmliaaTbo
import Derived.Test.YtgmkkajdmbmliaaTbm
import Derived.Test.YtgmkkajdmbmliaaTbu
namespace Go.Proofs.Ytgmkkajdmbmliaa
open Go.RowKit

/-- The call's own ints, in lo .. hi. -/
def II (w : World) (lo hi : Nat) (v : Value) (xs : List Int) : Prop := OI w lo v xs ∧ ∀ b, v.ownBlock = some b → b < hi
theorem OI.ii {w : World} {lo : Nat} {v : Value} {xs : List Int} (h : OI w lo v xs) : II w lo w.heap.size v xs := ⟨h, fun b hb => (h.lt b hb).2⟩
theorem II.chg {S : Nat → Prop} {w w' : World} {lo hi : Nat} {v : Value} {xs : List Int} (h : II w lo hi v xs) (hk : Chg S w w') (hs : ∀ b, lo ≤ b → b < hi → ¬ S b) : II w' lo hi v xs :=
  ⟨h.1.chg hk fun b hb he => hs b hb (h.2 b he), h.2⟩
theorem II.below {w w' : World} {lo hi : Nat} {v : Value} {xs : List Int} (h : II w lo hi v xs) (hk : Below w.heap.size w w') : II w' lo hi v xs := ⟨h.1.below hk, h.2⟩
theorem II.ri {w : World} {lo hi : Nat} {v : Value} {xs : List Int} (h : II w lo hi v xs) : RI w lo hi v xs := ⟨reads_hi h.1.1 h.2, h.1.2⟩
theorem box_chg {S : Nat → Prop} {w w' : World} {B : Nat} {o : Obj} (h : w.heap[B]? = some o) (c : Chg S w w') (hs : ¬ S B) : w'.heap[B]? = some o :=
  (c.block B (Array.getElem?_eq_some_iff.1 h).1 hs).trans h
/-- A change of one stretch, above what is kept. -/
theorem up_chg {a b c : World} {lo hi : Nat} (h : Below a.heap.size a b) (k : Chg (fun b => lo ≤ b ∧ b < hi) b c) (hl : a.heap.size ≤ lo) : Below a.heap.size a c :=
  h.trans (k.below h.size (fun i hi he => by omega))


end Go.Proofs.Ytgmkkajdmbmliaa
