/-
  The walks of the functions over numbers: l1In, VictimScore, BitCount, alive.
-/
import Derived.Test.YtgmkkajdmbmliaaMod
import Derived.BigGuardPart
namespace Go.Proofs.Ytgmkkajdmbmliaa
open Go.RowKit

theorem l1In_any (n lo hi : Int) (w : World) : Calls Try.prog 17 #[.int .i64 n, .int .i64 lo, .int .i64 hi] w fun e w' => e = .returned (.bool (inB n lo hi)) ∧ w = w' := by
  by_cases h : lo ≤ n
  · by_cases h2 : n ≤ hi
    · rw [inB_yes h h2]
      go_enter Try.func17, Try.ntmps17
      go_wp2
      go_ret
      exact ⟨rfl, rfl⟩
    · rw [inB_no (by omega)]
      go_enter Try.func17, Try.ntmps17
      go_wp2
      go_ret
      exact ⟨rfl, rfl⟩
  · rw [inB_no (by omega)]
    have h' : decide (lo ≤ n) = false := by simp; omega
    go_enter Try.func17, Try.ntmps17
    go_wp2
    go_ret
    exact ⟨rfl, rfl⟩

theorem implVictim_any (u a : Int) (hu : I64 u) (ha : I64 a) (w : World) : Calls Try.prog 28 #[.int .i64 u, .int .i64 a] w fun e w' => e = .returned (.int .i64 (vscore u a)) ∧ w = w' := by
  unfold I64 at hu ha
  by_cases h : 0 ≤ u ∧ u ≤ 4 ∧ 0 ≤ a ∧ a ≤ 1000000
  · rw [vscore, if_pos h]
    obtain ⟨h1, h2, h3, h4⟩ := h
    obtain rfl | rfl | rfl | rfl | rfl : u = 0 ∨ u = 1 ∨ u = 2 ∨ u = 3 ∨ u = 4 := by omega
    all_goals
      go_enter Try.func28, Try.ntmps28
      go_wp2
      all_goals (go_ret; exact ⟨ret_int (by omega), rfl⟩)
  · rw [vscore, if_neg h]
    rcases (show u < 0 ∨ (0 ≤ u ∧ 4 < u) ∨ (0 ≤ u ∧ u ≤ 4 ∧ a < 0) ∨ (0 ≤ u ∧ u ≤ 4 ∧ 0 ≤ a ∧ 1000000 < a) from by omega) with h1 | ⟨h1, h2⟩ | ⟨h1, h2, h3⟩ | ⟨h1, h2, h3, h4⟩
    all_goals
      clear h
      go_enter Try.func28, Try.ntmps28
      go_wp2
      all_goals (go_ret; exact ⟨rfl, rfl⟩)

theorem specVictim_any (u a : Int) (hu : I64 u) (ha : I64 a) (w : World) : Calls Try.prog 19 #[.int .i64 u, .int .i64 a] w fun e w' => e = .returned (.int .i64 (vscore u a)) ∧ w = w' := by
  unfold I64 at hu ha
  by_cases h : 0 ≤ u ∧ u ≤ 4 ∧ 0 ≤ a ∧ a ≤ 1000000
  · rw [vscore, if_pos h]
    obtain ⟨h1, h2, h3, h4⟩ := h
    have b2 := inB_yes h3 h4
    obtain rfl | rfl | rfl | rfl | rfl : u = 0 ∨ u = 1 ∨ u = 2 ∨ u = 3 ∨ u = 4 := by omega
    all_goals
      have b1 := inB_yes h1 h2
      go_enter Try.func19, Try.ntmps19
      go_wp2_with (go_at_call 17; refine (l1In_any _ _ _ _).mono ?_; rintro e w' ⟨rfl, rfl⟩)
      all_goals (go_ret; exact ⟨ret_int (by omega), rfl⟩)
  · rw [vscore, if_neg h]
    by_cases h1 : 0 ≤ u ∧ u ≤ 4
    · have b1 := inB_yes h1.1 h1.2
      have b2 : inB a 0 1000000 = false := inB_no (by omega)
      go_enter Try.func19, Try.ntmps19
      go_wp2_with (go_at_call 17; refine (l1In_any _ _ _ _).mono ?_; rintro e w' ⟨rfl, rfl⟩)
      go_ret
      exact ⟨rfl, rfl⟩
    · have b1 : inB u 0 4 = false := inB_no (by omega)
      go_enter Try.func19, Try.ntmps19
      go_wp2_with (go_at_call 17; refine (l1In_any _ _ _ _).mono ?_; rintro e w' ⟨rfl, rfl⟩)
      go_ret
      exact ⟨rfl, rfl⟩




end Go.Proofs.Ytgmkkajdmbmliaa
