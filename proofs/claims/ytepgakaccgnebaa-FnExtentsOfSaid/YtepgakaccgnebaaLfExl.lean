/-
  The walk of the law FnExtentsList.
-/
import Derived.Test.YtepgakaccgnebaaDrExt
import Derived.Test.YtepgakaccgnebaaSmx
import Derived.Test.YtepgakaccgnebaaExm
namespace Go.Proofs.Ytepgakaccgnebaa
open Go.RowKit

theorem implOf_list (v : Value) (xs : List (Int × Int)) (lo hi : Nat) (w : World) (h : RI w lo hi v (exList xs)) (hv : exVal xs = true) :
    Calls Try.prog 29 #[v] w fun e w' => ∃ v', e = .returned (.tuple #[v', .bool true]) ∧ OX w' w.heap.size v' xs ∧ Below w.heap.size w w' := by
  have hl := exList_len xs
  have c := implOf_any v (exList xs) lo hi w h (by omega)
  unfold OfPost at c
  rw [exOf_list hv] at c
  exact c
theorem sameInts_self (v v2 : Value) (xs : List Int) (lo hi lo2 hi2 : Nat) (w : World) (h : RI w lo hi v xs) (h2 : RI w lo2 hi2 v2 xs) (hx : xs.length ≤ 1048576) :
    Calls Try.prog 28 #[v, v2] w fun e w' => e = .returned (.bool true) ∧ Below w.heap.size w w' := by
  have c := sameInts_any v v2 xs xs lo hi lo2 hi2 w h h2 hx hx
  rw [sameL_self] at c
  exact c

set_option maxHeartbeats 1000000 in
theorem FnExtentsList_walk (w : World) (v : Value) (bs : List Int) (h : RB w 0 w.heap.size v bs) :
    Calls Try.prog 8 #[v] w fun e w' => e = .returned (.bool true) ∧ Below w.heap.size w w' := by
  have H := Lib.hid h
  obtain ⟨a, cap, b, off, rfl, -⟩ := h.open
  clear h
  by_cases hl : bs.length ≤ 1048576
  · go_enter Try.func8, Try.ntmps8
    go_wp2_with fail
    refine (drawExtentsList _ _ bs H.out).mono ?_
    rintro e w1 ⟨v, xs, rfl, hx, ⟨o1, -⟩, b1⟩
    have O1 := Lib.hid (And.intro o1 b1)
    clear o1 b1
    have HL := Lib.hid (exList_len xs)
    go_wp2_with fail
    refine (implExl_any _ xs _ _ _ O1.out.1.rx).mono ?_
    rintro e w2 ⟨v2, rfl, o2, b2⟩
    have O2 := Lib.hid (And.intro (O1.out.1.below b2) (And.intro o2 (bup O1.out.2 (Nat.le_refl _) b2)))
    clear o2 b2
    go_wp2_with fail
    refine (specExl_any _ xs _ _ _ O2.out.1.rx).mono ?_
    rintro e w3 ⟨v3, rfl, o3, b3⟩
    have O3 := Lib.hid (And.intro (O2.out.1.below b3) (And.intro (O2.out.2.1.below b3) (And.intro o3 (bup O2.out.2.2 (Nat.le_refl _) b3))))
    clear o3 b3
    go_wp2_with fail
    refine (sameInts_self _ _ (exList xs) _ _ _ _ _ O3.out.2.1.ri O3.out.2.2.1.ri (by have := HL.out; omega)).mono ?_
    rintro e w4 ⟨rfl, b4⟩
    have O4 := Lib.hid (And.intro (O3.out.1.below b4) (And.intro (O3.out.2.1.below b4) (bup O3.out.2.2.2 (Nat.le_refl _) b4)))
    clear b4
    obtain ⟨ok, hok⟩ : ∃ ok, ok = exVal xs := ⟨_, rfl⟩
    have HOK := Lib.hid hok
    clear hok
    go_wp2_with fail
    refine (implExv_any _ xs _ _ _ O4.out.1.rx).mono ?_
    rintro e w5 ⟨rfl, b5⟩
    have O5 := Lib.hid (And.intro (O4.out.1.below b5) (And.intro (O4.out.2.1.below b5) (bup O4.out.2.2 (Nat.le_refl _) b5)))
    clear b5
    rw [← HOK.out]
    cases ok
    · have he : exList xs = [] := by rw [exList, if_neg (by rw [← HOK.out]; simp)]
      have O6 := Lib.hid (And.intro O5.out.2.1.ri O5.out.2.2)
      rw [he] at O6
      obtain ⟨a6, cap6, b6, off6, rfl, q1, q2, -, -⟩ := O6.out.1.open
      clear he
      simp only [List.length_nil] at *
      go_wp2_with fail
      refine (alive_any _).mono ?_
      rintro e w' ⟨rfl, rfl⟩
      go_wp2_with fail
      all_goals (go_ret; exact ⟨rfl, O6.out.2⟩)
    · go_wp2_with fail
      refine (implOf_list v2 xs _ _ _ O5.out.2.1.ri HOK.out.symm).mono ?_
      rintro e w6 ⟨v6, rfl, o6, b6⟩
      have O6 := Lib.hid (And.intro (O5.out.1.below b6) (And.intro o6 (bup O5.out.2.2 (Nat.le_refl _) b6)))
      clear o6 b6
      go_wp2_with fail
      refine (sameExtents_any v6 _ xs _ _ _ _ _ O6.out.2.1.rx O6.out.1.rx (by omega)).mono ?_
      rintro e w7 ⟨rfl, b7⟩
      have HF := Lib.hid (bup O6.out.2.2 (Nat.le_refl _) b7)
      clear b7
      go_wp2_with fail
      all_goals (go_ret; exact ⟨rfl, HF.out⟩)
  · go_enter Try.func8, Try.ntmps8
    go_wp2_with fail
    all_goals (go_ret; exact ⟨rfl, Below.refl _ _⟩)

end Go.Proofs.Ytepgakaccgnebaa
