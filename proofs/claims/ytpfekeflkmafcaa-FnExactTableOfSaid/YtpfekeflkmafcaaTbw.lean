/-
  Words for what a law's body holds: ints between two marks, and boxes.
-/
import Derived.Test.YtpfekeflkmafcaaTbo
import Derived.Test.YtpfekeflkmafcaaTbm
import Derived.Test.YtpfekeflkmafcaaTbu
namespace Go.Proofs.Ytpfekeflkmafcaa
open Go.RowKit

/-- The call's own ints, in lo .. hi. -/
def II (w : World) (lo hi : Nat) (v : Value) (xs : List Int) : Prop := OI w lo v xs ∧ ∀ b, v.ownBlock = some b → b < hi
theorem OI.ii {w : World} {lo : Nat} {v : Value} {xs : List Int} (h : OI w lo v xs) : II w lo w.heap.size v xs := ⟨h, fun b hb => (h.lt b hb).2⟩
theorem II.chg {S : Nat → Prop} {w w' : World} {lo hi : Nat} {v : Value} {xs : List Int} (h : II w lo hi v xs) (hk : Chg S w w') (hs : ∀ b, lo ≤ b → b < hi → ¬ S b) : II w' lo hi v xs :=
  ⟨h.1.chg hk fun b hb he => hs b hb (h.2 b he), h.2⟩
theorem II.below {w w' : World} {lo hi : Nat} {v : Value} {xs : List Int} (h : II w lo hi v xs) (hk : Below w.heap.size w w') : II w' lo hi v xs := ⟨h.1.below hk, h.2⟩
theorem II.ri {w : World} {lo hi : Nat} {v : Value} {xs : List Int} (h : II w lo hi v xs) : RI w lo hi v xs := ⟨reads_hi h.1.1 h.2, h.1.2⟩
theorem box_chg {S : Nat → Prop} {w w' : World} {B : Nat} {o : Obj} (h : w.heap[B]? = some o) (c : Chg S w w') (hs : ¬ S B) : w'.heap[B]? = some o :=
  (c.block B (Array.getElem?_eq_some_iff.1 h).1 hs).trans h
/-- A change of one stretch, above what is kept. -/
theorem up_chg {a b c : World} {lo hi : Nat} (h : Below a.heap.size a b) (k : Chg (fun b => lo ≤ b ∧ b < hi) b c) (hl : a.heap.size ≤ lo) : Below a.heap.size a c :=
  h.trans (k.below h.size (fun i hi he => by omega))

theorem markII (v : Value) (xs : List Int) (lo hi : Nat) (k : Int) (w : World) (h : II w lo hi v xs) (hx : xs.length ≤ 1048576) (hk0 : 0 ≤ k) (hk1 : k ≤ 4503599626321920) :
    Calls Try.prog 49 #[v, .int .i64 k] w fun e w' => e = .returned (.int .i64 (k + xs.length)) ∧ II w' lo hi v (upN k xs.length) ∧ Chg (fun b => lo ≤ b ∧ b < hi) w w' := by
  refine (markIntS_any v _ lo xs.length k w h.1.1 hx hk0 (by omega)).mono ?_
  rintro e w' ⟨rfl, h1, h2, h3⟩
  exact ⟨rfl, ⟨⟨by rw [upN_len]; exact h1, upN_i64 k _ hk0 (by omega) hx⟩, h.2⟩, h2.mono fun b _ hb => ⟨(h.1.lt b hb).1, h.2 b hb⟩⟩
theorem heldII (v : Value) (n : Nat) (lo hi : Nat) (k : Int) (w : World) (h : II w lo hi v (upN k n)) (hx : n ≤ 1048576) (hk0 : 0 ≤ k) (hk1 : k ≤ 4503599626321920) :
    Calls Try.prog 50 #[v, .int .i64 k] w fun e w' => e = .returned (.int .i64 (k + n)) ∧ w = w' := by
  have h1 := reads_hi h.1.1 h.2
  rw [upN_len] at h1
  exact heldIntS_any v lo hi n k w h1 hx hk0 (by omega)

end Go.Proofs.Ytpfekeflkmafcaa
