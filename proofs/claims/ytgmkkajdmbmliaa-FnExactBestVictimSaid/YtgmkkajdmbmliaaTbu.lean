/-
  szTable by cases.
-/
import Derived.Test.YtgmkkajdmbmliaaTbg
import Derived.Test.YtgmkkajdmbmliaaTbh
namespace Go.Proofs.Ytgmkkajdmbmliaa
open Go.RowKit

theorem szT_yes (v : Value) (xs : List (List Int)) (lo hi left : Nat) (w : World) (h : RT w lo hi v xs) (hl : left ≤ 1048576) (hx : tsz xs ≤ left) :
    Calls Try.prog 5 #[.agg #[v], .int .i64 left] w fun e w' => e = .returned (.int .i64 ((left : Int) - tsz xs)) ∧ Below w.heap.size w w' := by
  have c := szTable_any v xs lo hi left w h hl
  rw [if_pos hx] at c
  exact c
theorem szT_no (v : Value) (xs : List (List Int)) (lo hi left : Nat) (w : World) (h : RT w lo hi v xs) (hl : left ≤ 1048576) (hx : ¬ tsz xs ≤ left) :
    Calls Try.prog 5 #[.agg #[v], .int .i64 left] w fun e w' => e = .returned (.int .i64 (-1)) ∧ Below w.heap.size w w' := by
  have c := szTable_any v xs lo hi left w h hl
  rw [if_neg hx] at c
  exact c

end Go.Proofs.Ytgmkkajdmbmliaa
