/-
  The walks of the laws over VictimScore.
-/
import Derived.Test.YtcjnbjbiiadieaaNum
namespace Go.Proofs.Ytcjnbjbiiadieaa
open Go.RowKit

theorem FnExactVictimScore_walk (w : World) (u : Int) (hu : I64 u) (a : Int) (ha : I64 a) :
    Calls Try.prog 3 #[.int .i64 u, .int .i64 a] w fun e w' => e = .returned (.bool true) ∧ Below w.heap.size w w' := by
  go_enter Try.func3, Try.ntmps3
  go_wp2_with fail
  refine (specVictim_any u a hu ha _).mono ?_
  rintro e w' ⟨rfl, rfl⟩
  go_wp2_with fail
  refine (implVictim_any u a hu ha _).mono ?_
  rintro e w' ⟨rfl, rfl⟩
  go_wp2_with fail
  all_goals (go_ret; exact ⟨rfl, Below.refl _ _⟩)

end Go.Proofs.Ytcjnbjbiiadieaa
