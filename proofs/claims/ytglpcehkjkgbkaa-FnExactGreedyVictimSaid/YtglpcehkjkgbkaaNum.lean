/-
  The walks of the functions over numbers: l1In, VictimScore, BitCount, alive.
-/
import Derived.Test.YtglpcehkjkgbkaaMod
import Derived.BigGuardPart
namespace Go.Proofs.Ytglpcehkjkgbkaa
open Go.RowKit

theorem l1In_any (n lo hi : Int) (w : World) : Calls Try.prog 33 #[.int .i64 n, .int .i64 lo, .int .i64 hi] w fun e w' => e = .returned (.bool (inB n lo hi)) ∧ w = w' := by
  by_cases h : lo ≤ n
  · by_cases h2 : n ≤ hi
    · rw [inB_yes h h2]
      go_enter Try.func33, Try.ntmps33
      go_wp2
      go_ret
      exact ⟨rfl, rfl⟩
    · rw [inB_no (by omega)]
      go_enter Try.func33, Try.ntmps33
      go_wp2
      go_ret
      exact ⟨rfl, rfl⟩
  · rw [inB_no (by omega)]
    have h' : decide (lo ≤ n) = false := by simp; omega
    go_enter Try.func33, Try.ntmps33
    go_wp2
    go_ret
    exact ⟨rfl, rfl⟩






end Go.Proofs.Ytglpcehkjkgbkaa
