/-
  The walk of the law FnVictimScore.
-/
import Derived.Test.YtcjnbjbiiadieaaDrVic
namespace Go.Proofs.Ytcjnbjbiiadieaa
open Go.RowKit

theorem vscore_nonneg {u a : Int} (h : 0 ≤ vscore u a) : 0 ≤ u ∧ u ≤ 4 ∧ 0 ≤ a ∧ a ≤ 1000000 := by
  unfold vscore at h
  split at h
  · assumption
  · omega
theorem vscore_neg {u a : Int} (h : vscore u a < 0) : vscore u a = -1 := by
  unfold vscore at h ⊢
  split at h
  · rename_i g
    obtain ⟨g1, g2, g3, g4⟩ := g
    have h1 : 0 ≤ a * (4 - u) := Int.mul_nonneg g3 (by omega)
    have := Int.ediv_nonneg h1 (show 0 ≤ u + 1 by omega)
    omega
  · rename_i g; rw [if_neg g]
theorem vscore_age {u a : Int} (h : 0 ≤ vscore u a) (ha : a ≠ 1000000) : vscore u a ≤ vscore u (a + 1) := by
  obtain ⟨h1, h2, h3, h4⟩ := vscore_nonneg h
  unfold vscore
  rw [if_pos ⟨h1, h2, h3, h4⟩, if_pos ⟨h1, h2, by omega, by omega⟩]
  obtain rfl | rfl | rfl | rfl | rfl : u = 0 ∨ u = 1 ∨ u = 2 ∨ u = 3 ∨ u = 4 := by omega
  all_goals omega
theorem vscore_used {u a : Int} (h : 0 ≤ vscore u a) (hu : u ≠ 4) : vscore (u + 1) a ≤ vscore u a := by
  obtain ⟨h1, h2, h3, h4⟩ := vscore_nonneg h
  unfold vscore
  rw [if_pos ⟨by omega, by omega, h3, h4⟩, if_pos ⟨h1, h2, h3, h4⟩]
  obtain rfl | rfl | rfl | rfl : u = 0 ∨ u = 1 ∨ u = 2 ∨ u = 3 := by omega
  all_goals omega

set_option maxHeartbeats 1000000 in
theorem FnVictimScore_walk (w : World) (v : Value) (bs : List Int) (h : RB w 0 w.heap.size v bs) :
    Calls Try.prog 4 #[v] w fun e w' => e = .returned (.bool true) ∧ Below w.heap.size w w' := by
  have H := Lib.hid h
  obtain ⟨a, cap, b, off, rfl, -⟩ := h.open
  clear h
  by_cases hl : bs.length ≤ 1048576
  · go_enter Try.func4, Try.ntmps4
    go_wp2_with fail
    refine (dVictimScore _ _ bs H.out).mono ?_
    rintro e w1 ⟨u, a, rfl, hu, ha, b1⟩
    have B1 := Lib.hid b1
    clear b1
    go_wp2_with fail
    refine (implVictim_any u a hu ha _).mono ?_
    rintro e w' ⟨rfl, rfl⟩
    go_wp2_with fail
    refine (specVictim_any u a hu ha _).mono ?_
    rintro e w' ⟨rfl, rfl⟩
    by_cases hn : vscore u a < 0
    · have he := vscore_neg hn
      have hb : (vscore u a == -1) = true := by rw [he]; rfl
      clear he
      go_wp2_with fail
      refine (alive_any _).mono ?_
      rintro e w' ⟨rfl, rfl⟩
      go_wp2_with fail
      all_goals (go_ret; exact ⟨rfl, B1.out⟩)
    · have hn' : 0 ≤ vscore u a := by omega
      obtain ⟨h1, h2, h3, h4⟩ := vscore_nonneg hn'
      have ha1 : a = 1000000 ∨ a ≠ 1000000 := by omega
      have hu1 : u = 4 ∨ u ≠ 4 := by omega
      obtain ⟨n, hN⟩ : ∃ n, n = vscore u a := ⟨_, rfl⟩
      rw [← hN] at hn hn' ⊢
      have HN := Lib.hid hN
      clear hN
      rcases ha1 with rfl | ha1
      · rcases hu1 with rfl | hu1
        · go_wp2_with fail
          all_goals (go_ret; exact ⟨rfl, B1.out⟩)
        · have k2 : vscore (u + 1) 1000000 ≤ n := by rw [HN.out]; exact vscore_used (by rw [← HN.out]; exact hn') hu1
          have k3 : (u == 4) = false := by simpa using hu1
          go_wp2_with fail
          refine (implVictim_any (u + 1) 1000000 (by unfold I64; omega) ha _).mono ?_
          rintro e w' ⟨rfl, rfl⟩
          go_wp2_with fail
          all_goals (go_ret; exact ⟨rfl, B1.out⟩)
      · have k1 : n ≤ vscore u (a + 1) := by rw [HN.out]; exact vscore_age (by rw [← HN.out]; exact hn') ha1
        have k4 : (a == 1000000) = false := by simpa using ha1
        rcases hu1 with rfl | hu1
        · go_wp2_with fail
          refine (implVictim_any 4 (a + 1) (by unfold I64; omega) (by unfold I64; omega) _).mono ?_
          rintro e w' ⟨rfl, rfl⟩
          go_wp2_with fail
          all_goals (go_ret; exact ⟨rfl, B1.out⟩)
        · have k2 : vscore (u + 1) a ≤ n := by rw [HN.out]; exact vscore_used (by rw [← HN.out]; exact hn') hu1
          have k3 : (u == 4) = false := by simpa using hu1
          go_wp2_with fail
          refine (implVictim_any u (a + 1) hu (by unfold I64; omega) _).mono ?_
          rintro e w' ⟨rfl, rfl⟩
          go_wp2_with fail
          refine (implVictim_any (u + 1) a (by unfold I64; omega) ha _).mono ?_
          rintro e w' ⟨rfl, rfl⟩
          go_wp2_with fail
          all_goals (go_ret; exact ⟨rfl, B1.out⟩)
  · go_enter Try.func4, Try.ntmps4
    go_wp2_with fail
    all_goals (go_ret; exact ⟨rfl, Below.refl _ _⟩)

end Go.Proofs.Ytcjnbjbiiadieaa
