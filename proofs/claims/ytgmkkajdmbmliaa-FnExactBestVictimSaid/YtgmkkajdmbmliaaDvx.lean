/-
  Words of the laws over devices: a table, a device, numbers by value, wherever.
-/
import Derived.Test.YtgmkkajdmbmliaaDvw
import Derived.Test.YtgmkkajdmbmliaaTbw
import Derived.Test.YtgmkkajdmbmliaaTbu
namespace Go.Proofs.Ytgmkkajdmbmliaa
open Go.RowKit

theorem szJ_yes (v : Value) (xs : List (List Int)) (lo hi : Nat) (l : Int) (w : World) (h : RT w lo hi v xs) (h0 : 0 ≤ l) (hl : l ≤ 1048576) (hx : (tsz xs : Int) ≤ l) :
    Calls Try.prog 5 #[.agg #[v], .int .i64 l] w fun e w' => e = .returned (.int .i64 (l - tsz xs)) ∧ Below w.heap.size w w' := by
  obtain ⟨n, rfl⟩ : ∃ n : Nat, l = n := ⟨l.toNat, by omega⟩
  exact szT_yes v xs lo hi n w h (by omega) (by omega)
theorem szJ_no (v : Value) (xs : List (List Int)) (lo hi : Nat) (l : Int) (w : World) (h : RT w lo hi v xs) (h0 : 0 ≤ l) (hl : l ≤ 1048576) (hx : ¬ (tsz xs : Int) ≤ l) :
    Calls Try.prog 5 #[.agg #[v], .int .i64 l] w fun e w' => e = .returned (.int .i64 (-1)) ∧ Below w.heap.size w w' := by
  obtain ⟨n, rfl⟩ : ∃ n : Nat, l = n := ⟨l.toNat, by omega⟩
  exact szT_no v xs lo hi n w h (by omega) (by omega)

/-- A table by value, wherever; a device, wherever. -/
def TVd (w : World) (v : Value) (xs : List (List Int)) : Prop := ∃ r lo hi, v = .agg #[r] ∧ RT w lo hi r xs
theorem TVd.below {w w' : World} {v : Value} {xs : List (List Int)} (h : TVd w v xs) (hB : Below w.heap.size w w') : TVd w' v xs := by
  obtain ⟨r, lo, hi, rfl, h⟩ := h
  exact ⟨r, lo, hi, rfl, h.below hB⟩
def DVd (w : World) (v : Value) (d : List Bk) : Prop := ∃ lo hi, RD w lo hi v d
theorem DVd.below {w w' : World} {v : Value} {d : List Bk} (h : DVd w v d) (hB : Below w.heap.size w w') : DVd w' v d := by
  obtain ⟨lo, hi, h⟩ := h
  exact ⟨lo, hi, h.below hB⟩
/-- Numbers, between two marks. -/
def IVd (L : Nat) (w : World) (v : Value) (xs : List Int) : Prop := ∃ lo hi, L ≤ lo ∧ hi ≤ w.heap.size ∧ II w lo hi v xs
theorem IVd.below {L : Nat} {w w' : World} {v : Value} {xs : List Int} (h : IVd L w v xs) (hB : Below w.heap.size w w') : IVd L w' v xs := by
  obtain ⟨lo, hi, h1, h2, h⟩ := h
  exact ⟨lo, hi, h1, Nat.le_trans h2 hB.size, h.below hB⟩

end Go.Proofs.Ytgmkkajdmbmliaa
