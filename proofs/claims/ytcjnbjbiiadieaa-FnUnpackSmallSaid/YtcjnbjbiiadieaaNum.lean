/-
  The walks of the functions over numbers: l1In, VictimScore, BitCount, alive.
-/
import Derived.Test.YtcjnbjbiiadieaaMod
import Derived.BigGuardPart
namespace Go.Proofs.Ytcjnbjbiiadieaa
open Go.RowKit

theorem l1In_any (n lo hi : Int) (w : World) : Calls Try.prog 39 #[.int .i64 n, .int .i64 lo, .int .i64 hi] w fun e w' => e = .returned (.bool (inB n lo hi)) ∧ w = w' := by
  by_cases h : lo ≤ n
  · by_cases h2 : n ≤ hi
    · rw [inB_yes h h2]
      go_enter Try.func39, Try.ntmps39
      go_wp2
      go_ret
      exact ⟨rfl, rfl⟩
    · rw [inB_no (by omega)]
      go_enter Try.func39, Try.ntmps39
      go_wp2
      go_ret
      exact ⟨rfl, rfl⟩
  · rw [inB_no (by omega)]
    have h' : decide (lo ≤ n) = false := by simp; omega
    go_enter Try.func39, Try.ntmps39
    go_wp2
    go_ret
    exact ⟨rfl, rfl⟩

theorem implVictim_any (u a : Int) (hu : I64 u) (ha : I64 a) (w : World) : Calls Try.prog 16 #[.int .i64 u, .int .i64 a] w fun e w' => e = .returned (.int .i64 (vscore u a)) ∧ w = w' := by
  unfold I64 at hu ha
  by_cases h : 0 ≤ u ∧ u ≤ 4 ∧ 0 ≤ a ∧ a ≤ 1000000
  · rw [vscore, if_pos h]
    obtain ⟨h1, h2, h3, h4⟩ := h
    obtain rfl | rfl | rfl | rfl | rfl : u = 0 ∨ u = 1 ∨ u = 2 ∨ u = 3 ∨ u = 4 := by omega
    all_goals
      go_enter Try.func16, Try.ntmps16
      go_wp2
      all_goals (go_ret; exact ⟨ret_int (by omega), rfl⟩)
  · rw [vscore, if_neg h]
    rcases (show u < 0 ∨ (0 ≤ u ∧ 4 < u) ∨ (0 ≤ u ∧ u ≤ 4 ∧ a < 0) ∨ (0 ≤ u ∧ u ≤ 4 ∧ 0 ≤ a ∧ 1000000 < a) from by omega) with h1 | ⟨h1, h2⟩ | ⟨h1, h2, h3⟩ | ⟨h1, h2, h3, h4⟩
    all_goals
      clear h
      go_enter Try.func16, Try.ntmps16
      go_wp2
      all_goals (go_ret; exact ⟨rfl, rfl⟩)

theorem specVictim_any (u a : Int) (hu : I64 u) (ha : I64 a) (w : World) : Calls Try.prog 15 #[.int .i64 u, .int .i64 a] w fun e w' => e = .returned (.int .i64 (vscore u a)) ∧ w = w' := by
  unfold I64 at hu ha
  by_cases h : 0 ≤ u ∧ u ≤ 4 ∧ 0 ≤ a ∧ a ≤ 1000000
  · rw [vscore, if_pos h]
    obtain ⟨h1, h2, h3, h4⟩ := h
    have b2 := inB_yes h3 h4
    obtain rfl | rfl | rfl | rfl | rfl : u = 0 ∨ u = 1 ∨ u = 2 ∨ u = 3 ∨ u = 4 := by omega
    all_goals
      have b1 := inB_yes h1 h2
      go_enter Try.func15, Try.ntmps15
      go_wp2_with (go_at_call 39; refine (l1In_any _ _ _ _).mono ?_; rintro e w' ⟨rfl, rfl⟩)
      all_goals (go_ret; exact ⟨ret_int (by omega), rfl⟩)
  · rw [vscore, if_neg h]
    by_cases h1 : 0 ≤ u ∧ u ≤ 4
    · have b1 := inB_yes h1.1 h1.2
      have b2 : inB a 0 1000000 = false := inB_no (by omega)
      go_enter Try.func15, Try.ntmps15
      go_wp2_with (go_at_call 39; refine (l1In_any _ _ _ _).mono ?_; rintro e w' ⟨rfl, rfl⟩)
      go_ret
      exact ⟨rfl, rfl⟩
    · have b1 : inB u 0 4 = false := inB_no (by omega)
      go_enter Try.func15, Try.ntmps15
      go_wp2_with (go_at_call 39; refine (l1In_any _ _ _ _).mono ?_; rintro e w' ⟨rfl, rfl⟩)
      go_ret
      exact ⟨rfl, rfl⟩

theorem bitCount10 (w : World) : Calls Try.prog 42 #[.int .i64 10] w fun e w' => e = .returned (.int .i64 2) ∧ w = w' := by
  go_enter Try.func42, Try.ntmps42
  go_wp2
  go_loop [3, 4] (fun m s => (m = .int .i64 0 ∧ s = .int .i64 10) ∨ (m = .int .i64 0 ∧ s = .int .i64 5) ∨ (m = .int .i64 1 ∧ s = .int .i64 2) ∨ (m = .int .i64 1 ∧ s = .int .i64 1) ∨ (m = .int .i64 2 ∧ s = .int .i64 0)) (fun _ s => (intOf s).toNat)
  case atStart => exact .inl ⟨rfl, rfl⟩
  case round =>
    rcases hrel with ⟨rfl, rfl⟩ | ⟨rfl, rfl⟩ | ⟨rfl, rfl⟩ | ⟨rfl, rfl⟩ | ⟨rfl, rfl⟩
    all_goals go_wp2
    all_goals first
      | (go_ret; exact ⟨rfl, rfl⟩)
      | (go_round
         case rel => simp
         case measure => simp [intOf])

theorem bitCountNeg (w : World) : Calls Try.prog 42 #[.int .i64 (-1)] w fun e w' => e = .returned (.int .i64 (-1)) ∧ w = w' := by
  go_enter Try.func42, Try.ntmps42
  go_wp2
  go_ret
  exact ⟨rfl, rfl⟩

theorem alive_any (w : World) : Calls Try.prog 18 #[] w fun e w' => e = .returned (.bool true) ∧ w = w' := by
  go_enter Try.func18, Try.ntmps18
  go_wp2_with fail
  refine (bitCount10 _).mono ?_
  rintro e w' ⟨rfl, rfl⟩
  go_wp2_with fail
  refine (bitCountNeg _).mono ?_
  rintro e w' ⟨rfl, rfl⟩
  go_wp2_with fail
  go_ret
  exact ⟨rfl, rfl⟩

end Go.Proofs.Ytcjnbjbiiadieaa
