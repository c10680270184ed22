/-
  The walk of the law FnExtentAt.
-/
import Derived.Test.YtepgakaccgnebaaDrExt
import Derived.Test.YtepgakaccgnebaaExa
namespace Go.Proofs.Ytepgakaccgnebaa
open Go.RowKit

theorem exNth_in {xs : List (Int × Int)} (m : Nat) (hm : m < (exList xs).length) : exNth xs m = (exList xs)[m] := by
  rw [exNth, if_neg (by omega)]; simp [hm]
theorem exNth_out {xs : List (Int × Int)} {n : Int} (h : n < 0 ∨ ((exList xs).length : Int) ≤ n) : exNth xs n = -1 := by
  unfold exNth
  split
  · rfl
  · have : (exList xs).length ≤ n.toNat := by omega
    simp [this]

set_option maxHeartbeats 800000 in
theorem FnExtentAt_walk (w : World) (v : Value) (bs : List Int) (h : RB w 0 w.heap.size v bs) :
    Calls Try.prog 6 #[v] w fun e w' => e = .returned (.bool true) ∧ Below w.heap.size w w' := by
  have H := Lib.hid h
  obtain ⟨a, cap, b, off, rfl, -⟩ := h.open
  clear h
  by_cases hl : bs.length ≤ 1048576
  · go_enter Try.func6, Try.ntmps6
    go_wp2_with fail
    refine (drawExtentAt _ _ bs H.out).mono ?_
    rintro e w1 ⟨v3, xs, n, rfl, hx, hn, o1, b1⟩
    have O1 := Lib.hid (And.intro o1 b1)
    have HN := Lib.hid hn
    clear o1 b1 hn
    go_wp2_with fail
    refine (implAt_any v3 xs _ _ n _ O1.out.1.rx).mono ?_
    rintro e w2 ⟨rfl, b2⟩
    have O2 := Lib.hid (And.intro (O1.out.1.below b2) (bup O1.out.2 (Nat.le_refl _) b2))
    clear b2
    go_wp2_with fail
    refine (specAt_any v3 xs _ _ n HN.out _ O2.out.1.rx).mono ?_
    rintro e w3 ⟨rfl, b3⟩
    have O3 := Lib.hid (And.intro (O2.out.1.below b3) (bup O2.out.2 (Nat.le_refl _) b3))
    clear b3
    generalize hr : exNth xs n = r
    have HR := Lib.hid hr
    clear hr
    have hrr : (r != r) = false := by simp
    go_wp2_with fail
    refine (implExl_any v3 xs _ _ _ O3.out.1.rx).mono ?_
    rintro e w4 ⟨v6, rfl, o4, b4⟩
    have HB := Lib.hid (bup O3.out.2 (Nat.le_refl _) b4)
    obtain ⟨a6, cap6, b6, off6, rfl, q1, q2, q3, q4⟩ := o4.ri.open
    have Q4 := Lib.hid q4
    have hll := exList_len xs
    clear o4 b4 q4
    by_cases h0 : n < 0
    · have hr1 : r = -1 := by rw [← HR.out]; exact exNth_out (.inl h0)
      subst hr1
      clear q3
      go_wp2_with fail
      refine (alive_any _).mono ?_
      rintro e w' ⟨rfl, rfl⟩
      go_wp2_with fail
      all_goals (go_ret; exact ⟨rfl, HB.out⟩)
    · obtain ⟨m, rfl⟩ := Int.eq_ofNat_of_zero_le (show 0 ≤ n by omega)
      by_cases hm : m < (exList xs).length
      · obtain rfl := q3 (by omega)
        have c6 := Q4.out m hm
        rw [← exNth_in m hm, HR.out] at c6
        clear q3
        go_wp2_with fail
        all_goals (go_ret; exact ⟨rfl, HB.out⟩)
      · have hr1 : r = -1 := by rw [← HR.out]; exact exNth_out (.inr (by omega))
        subst hr1
        clear q3
        go_wp2_with fail
        refine (alive_any _).mono ?_
        rintro e w' ⟨rfl, rfl⟩
        go_wp2_with fail
        all_goals (go_ret; exact ⟨rfl, HB.out⟩)
  · go_enter Try.func6, Try.ntmps6
    go_wp2_with fail
    all_goals (go_ret; exact ⟨rfl, Below.refl _ _⟩)

end Go.Proofs.Ytepgakaccgnebaa
