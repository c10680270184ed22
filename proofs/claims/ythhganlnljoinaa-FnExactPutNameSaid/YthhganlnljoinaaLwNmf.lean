/-
  The walks of the laws FnExactNamesValid, FnExactFindName.
-/
import Derived.Test.YthhganlnljoinaaNmf
namespace Go.Proofs.Ythhganlnljoinaa
open Go.RowKit

theorem nsz_len {xs : List (ByteArray × Int)} (h : nsz xs ≤ 1048576) : xs.length ≤ 1048576 := by unfold nsz at h; omega
theorem szN_yes (v : Value) (xs : List (ByteArray × Int)) (lo hi : Nat) (w : World) (h : RN w lo hi v xs) (hx : nsz xs ≤ 1048576) :
    Calls Try.prog 11 #[v, .int .i64 1048576] w fun e w' => e = .returned (.int .i64 (1048576 - (nsz xs : Int))) ∧ Below w.heap.size w w' := by
  have c := szNameS_any v xs lo hi w h
  rw [if_pos hx] at c
  exact c
theorem szN_no (v : Value) (xs : List (ByteArray × Int)) (lo hi : Nat) (w : World) (h : RN w lo hi v xs) (hx : ¬ nsz xs ≤ 1048576) :
    Calls Try.prog 11 #[v, .int .i64 1048576] w fun e w' => e = .returned (.int .i64 (-1)) ∧ Below w.heap.size w w' := by
  have c := szNameS_any v xs lo hi w h
  rw [if_neg hx] at c
  exact c

set_option maxHeartbeats 1000000 in
theorem FnExactNamesValid_walk (w : World) (v : Value) (xs : List (ByteArray × Int)) (h : RN w 0 w.heap.size v xs) :
    Calls Try.prog 3 #[v] w fun e w' => e = .returned (.bool true) ∧ Below w.heap.size w w' := by
  have H := Lib.hid h
  clear h
  by_cases hx : nsz xs ≤ 1048576
  · have hx1 := nsz_len hx
    go_enter Try.func3, Try.ntmps3
    go_wp2_with fail
    refine (szN_yes _ xs _ _ _ H.out hx).mono ?_
    rintro e w1 ⟨rfl, b1⟩
    have B1 := Lib.hid b1
    clear b1
    go_wp2_with fail
    refine (toNameS_any _ xs _ _ _ (H.out.below B1.out) hx1).mono ?_
    rintro e w2 ⟨v1, rfl, o1, c2⟩
    have B2 := Lib.hid (bup B1.out (Nat.le_refl _) c2)
    clear c2
    go_wp2_with fail
    refine (specNmv_any v1 xs _ _ _ o1.rn).mono ?_
    rintro e w3 ⟨rfl, c3⟩
    have B3 := Lib.hid (bup B2.out (Nat.le_refl _) c3)
    clear c3 o1
    go_wp2_with fail
    refine (toNameS_any _ xs _ _ _ (H.out.below B3.out) hx1).mono ?_
    rintro e w4 ⟨v2, rfl, o2, c4⟩
    have B4 := Lib.hid (bup B3.out (Nat.le_refl _) c4)
    clear c4
    go_wp2_with fail
    refine (implNmv_any v2 xs _ _ _ o2.rn).mono ?_
    rintro e w5 ⟨rfl, c5⟩
    have o2' := o2.below c5
    have B5 := Lib.hid (bup B4.out (Nat.le_refl _) c5)
    clear c5 o2
    go_wp2_with fail
    refine (toNameS_any _ xs _ _ _ (H.out.below B5.out) hx1).mono ?_
    rintro e w6 ⟨v3, rfl, o3, c6⟩
    have B6 := Lib.hid (bup B5.out (Nat.le_refl _) c6)
    have p2 := o2'.below c6
    clear c6 o2'
    go_wp2_with fail
    refine (eqNameS_any v2 v3 xs _ _ _ _ _ p2.rn o3.rn hx1).mono ?_
    rintro e w7 ⟨rfl, c7⟩
    have B7 := Lib.hid (bup B6.out (Nat.le_refl _) c7)
    clear c7 p2 o3
    go_wp2_with fail
    all_goals (go_ret; exact ⟨rfl, B7.out⟩)
  · go_enter Try.func3, Try.ntmps3
    go_wp2_with fail
    refine (szN_no _ xs _ _ _ H.out hx).mono ?_
    rintro e w1 ⟨rfl, b1⟩
    have B1 := Lib.hid b1
    clear b1
    go_wp2_with fail
    all_goals (go_ret; exact ⟨rfl, B1.out⟩)

set_option maxHeartbeats 1000000 in
theorem FnExactFindName_walk (w : World) (v : Value) (xs : List (ByteArray × Int)) (h : RN w 0 w.heap.size v xs) (t : ByteArray) (ht : t.size ≤ 9223372036854775807) :
    Calls Try.prog 5 #[v, .string t] w fun e w' => e = .returned (.bool true) ∧ Below w.heap.size w w' := by
  by_cases ht1 : t.size ≤ 1048576
  · have H := Lib.hid h
    clear h
    by_cases hx : nsz xs ≤ 1048576
    · have hx1 := nsz_len hx
      go_enter Try.func5, Try.ntmps5
      go_wp2_with fail
      refine (szN_yes _ xs _ _ _ H.out hx).mono ?_
      rintro e w1 ⟨rfl, b1⟩
      have B1 := Lib.hid b1
      clear b1
      go_wp2_with fail
      refine (toNameS_any _ xs _ _ _ (H.out.below B1.out) hx1).mono ?_
      rintro e w2 ⟨v1, rfl, o1, c2⟩
      have B2 := Lib.hid (bup B1.out (Nat.le_refl _) c2)
      clear c2
      go_wp2_with fail
      refine (specFind_any v1 xs t _ _ _ o1.rn).mono ?_
      rintro e w3 ⟨rfl, c3⟩
      have B3 := Lib.hid (bup B2.out (Nat.le_refl _) c3)
      clear c3 o1
      go_wp2_with fail
      refine (toNameS_any _ xs _ _ _ (H.out.below B3.out) hx1).mono ?_
      rintro e w4 ⟨v2, rfl, o2, c4⟩
      have B4 := Lib.hid (bup B3.out (Nat.le_refl _) c4)
      clear c4
      go_wp2_with fail
      refine (implFind_any v2 xs t _ _ _ o2.rn).mono ?_
      rintro e w5 ⟨rfl, c5⟩
      have o2' := o2.below c5
      have B5 := Lib.hid (bup B4.out (Nat.le_refl _) c5)
      clear c5 o2
      have hnn : (nmFind xs t != nmFind xs t) = false := by simp
      go_wp2_with fail
      refine (toNameS_any _ xs _ _ _ (H.out.below B5.out) hx1).mono ?_
      rintro e w6 ⟨v3, rfl, o3, c6⟩
      have B6 := Lib.hid (bup B5.out (Nat.le_refl _) c6)
      have p2 := o2'.below c6
      clear c6 o2'
      go_wp2_with fail
      refine (eqNameS_any v2 v3 xs _ _ _ _ _ p2.rn o3.rn hx1).mono ?_
      rintro e w7 ⟨rfl, c7⟩
      have B7 := Lib.hid (bup B6.out (Nat.le_refl _) c7)
      clear c7 p2 o3
      go_wp2_with fail
      all_goals (go_ret; exact ⟨rfl, B7.out⟩)
    · go_enter Try.func5, Try.ntmps5
      go_wp2_with fail
      refine (szN_no _ xs _ _ _ H.out hx).mono ?_
      rintro e w1 ⟨rfl, b1⟩
      have B1 := Lib.hid b1
      clear b1
      go_wp2_with fail
      all_goals (go_ret; exact ⟨rfl, B1.out⟩)
  · clear h
    go_enter Try.func5, Try.ntmps5
    go_wp2_with fail
    all_goals (go_ret; exact ⟨rfl, Below.refl _ _⟩)

end Go.Proofs.Ythhganlnljoinaa
