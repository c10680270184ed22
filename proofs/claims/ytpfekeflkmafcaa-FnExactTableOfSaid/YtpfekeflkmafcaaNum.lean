/-
  The walks of the functions over numbers: l1In, VictimScore, BitCount, alive.
-/
import Derived.Test.YtpfekeflkmafcaaMod
import Derived.BigGuardPart
namespace Go.Proofs.Ytpfekeflkmafcaa
open Go.RowKit

theorem l1In_any (n lo hi : Int) (w : World) : Calls Try.prog 45 #[.int .i64 n, .int .i64 lo, .int .i64 hi] w fun e w' => e = .returned (.bool (inB n lo hi)) ∧ w = w' := by
  by_cases h : lo ≤ n
  · by_cases h2 : n ≤ hi
    · rw [inB_yes h h2]
      go_enter Try.func45, Try.ntmps45
      go_wp2
      go_ret
      exact ⟨rfl, rfl⟩
    · rw [inB_no (by omega)]
      go_enter Try.func45, Try.ntmps45
      go_wp2
      go_ret
      exact ⟨rfl, rfl⟩
  · rw [inB_no (by omega)]
    have h' : decide (lo ≤ n) = false := by simp; omega
    go_enter Try.func45, Try.ntmps45
    go_wp2
    go_ret
    exact ⟨rfl, rfl⟩



theorem bitCount10 (w : World) : Calls Try.prog 39 #[.int .i64 10] w fun e w' => e = .returned (.int .i64 2) ∧ w = w' := by
  go_enter Try.func39, Try.ntmps39
  go_wp2
  go_loop [3, 4] (fun m s => (m = .int .i64 0 ∧ s = .int .i64 10) ∨ (m = .int .i64 0 ∧ s = .int .i64 5) ∨ (m = .int .i64 1 ∧ s = .int .i64 2) ∨ (m = .int .i64 1 ∧ s = .int .i64 1) ∨ (m = .int .i64 2 ∧ s = .int .i64 0)) (fun _ s => (intOf s).toNat)
  case atStart => exact .inl ⟨rfl, rfl⟩
  case round =>
    rcases hrel with ⟨rfl, rfl⟩ | ⟨rfl, rfl⟩ | ⟨rfl, rfl⟩ | ⟨rfl, rfl⟩ | ⟨rfl, rfl⟩
    all_goals go_wp2
    all_goals first
      | (go_ret; exact ⟨rfl, rfl⟩)
      | (go_round
         case rel => simp
         case measure => simp [intOf])

theorem bitCountNeg (w : World) : Calls Try.prog 39 #[.int .i64 (-1)] w fun e w' => e = .returned (.int .i64 (-1)) ∧ w = w' := by
  go_enter Try.func39, Try.ntmps39
  go_wp2
  go_ret
  exact ⟨rfl, rfl⟩

theorem alive_any (w : World) : Calls Try.prog 17 #[] w fun e w' => e = .returned (.bool true) ∧ w = w' := by
  go_enter Try.func17, Try.ntmps17
  go_wp2_with fail
  refine (bitCount10 _).mono ?_
  rintro e w' ⟨rfl, rfl⟩
  go_wp2_with fail
  refine (bitCountNeg _).mono ?_
  rintro e w' ⟨rfl, rfl⟩
  go_wp2_with fail
  go_ret
  exact ⟨rfl, rfl⟩

end Go.Proofs.Ytpfekeflkmafcaa
