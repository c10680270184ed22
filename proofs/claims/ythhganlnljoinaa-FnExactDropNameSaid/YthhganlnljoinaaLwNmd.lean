/-
  The walk of the law FnExactDropName.
-/
import Derived.Test.YthhganlnljoinaaLwNmf
import Derived.Test.YthhganlnljoinaaNmm
namespace Go.Proofs.Ythhganlnljoinaa
open Go.RowKit

theorem nmDrop_len (xs : List (ByteArray × Int)) (t : ByteArray) : (nmDrop xs t).1.length ≤ xs.length := by
  unfold nmDrop
  split
  · exact nmWo_le xs t
  · simp

set_option maxHeartbeats 2000000 in
theorem FnExactDropName_walk (w : World) (v : Value) (xs : List (ByteArray × Int)) (h : RN w 0 w.heap.size v xs) (t : ByteArray) (ht : t.size ≤ 9223372036854775807) :
    Calls Try.prog 7 #[v, .string t] w fun e w' => e = .returned (.bool true) ∧ Below w.heap.size w w' := by
  have H := Lib.hid h
  clear h
  by_cases ht1 : t.size ≤ 1048576
  · by_cases hx : nsz xs ≤ 1048576
    · have hx1 := nsz_len hx
      go_enter Try.func7, Try.ntmps7
      go_wp2_with fail
      refine (szN_yes _ xs _ _ _ H.out hx).mono ?_
      rintro e w1 ⟨rfl, b1⟩
      have B1 := Lib.hid b1
      clear b1
      have HL := Lib.hid (show (nmDrop xs t).1.length ≤ 1048576 by have := nmDrop_len xs t; omega)
      go_wp2_with fail
      refine (toNameS_any _ xs _ _ _ (H.out.below B1.out) hx1).mono ?_
      rintro e w2 ⟨v1, rfl, o1, c2⟩
      have B2 := Lib.hid (bup B1.out (Nat.le_refl _) c2)
      clear c2
      go_wp2_with fail
      refine (specDrop_any v1 xs t _ _ _ o1.rn hx1).mono ?_
      rintro e w3 ⟨v3, rfl, o3, c3⟩
      have s23 := c3.size
      have B3 := Lib.hid (bup B2.out (Nat.le_refl _) c3)
      have O3 := Lib.hid o3
      clear c3 o1 o3
      go_wp2_with fail
      refine (toNameS_any _ xs _ _ _ (H.out.below B3.out) hx1).mono ?_
      rintro e w4 ⟨v5, rfl, o5, c4⟩
      have s34 := c4.size
      have B4 := Lib.hid (bup B3.out (Nat.le_refl _) c4)
      have L5 := Lib.hid o5.lt
      have p3 := O3.out.below c4
      clear c4
      go_wp2_with fail
      refine (implDrop_any v5 xs t _ _ _ o5.rn hx1).mono ?_
      rintro e w5 ⟨v6, rfl, o6, c5⟩
      have s45 := c5.size
      have B5 := Lib.hid (bup B4.out (Nat.le_refl _) c5)
      have L6 := Lib.hid o6.lt
      have q3 := p3.below c5
      have q5 := o5.below c5
      clear c5 p3 o5
      have hbb : ((nmDrop xs t).2 != (nmDrop xs t).2) = false := by simp
      go_wp2_with fail
      refine (eqNameS_any v6 v3 (nmDrop xs t).1 _ _ _ _ _ o6.rn q3.rn HL.out).mono ?_
      rintro e w6 ⟨rfl, c6⟩
      have s56 := c6.size
      have B6 := Lib.hid (bup B5.out (Nat.le_refl _) c6)
      have P6 := Lib.hid (And.intro (q3.below c6) (And.intro (q5.below c6) (o6.below c6)))
      clear c6 q3 q5 o6
      go_wp2_with fail
      refine (toNameS_any _ xs _ _ _ (H.out.below B6.out) hx1).mono ?_
      rintro e w7 ⟨v7, rfl, o7, c7⟩
      have s67 := c7.size
      have B7 := Lib.hid (bup B6.out (Nat.le_refl _) c7)
      have P7 := Lib.hid (And.intro (P6.out.1.below c7) (And.intro (P6.out.2.1.below c7) (P6.out.2.2.below c7)))
      clear c7
      go_wp2_with fail
      refine (eqNameS_any v5 v7 xs _ _ _ _ _ P7.out.2.1.rn o7.rn hx1).mono ?_
      rintro e w8 ⟨rfl, c8⟩
      have s78 := c8.size
      have B8 := Lib.hid (bup B7.out (Nat.le_refl _) c8)
      have P8 := Lib.hid (And.intro (P7.out.1.below c8) (And.intro (P7.out.2.1.below c8) (P7.out.2.2.below c8)))
      clear c8 o7
      go_wp2_with fail
      refine (markNameS_any v5 _ _ xs.length 1 w8 P8.out.2.1.1 hx1 (by omega) (by omega)).mono ?_
      rintro e w9 ⟨rfl, o9, c9⟩
      have s89 := c9.size
      have b3z := B3.out.size
      have hl3 := O3.out.lt
      have hneg : decide ((1 : Int) + 2 * (xs.length : Int) < 0) = false := by simp; omega
      have r3 := P8.out.1.chg c9 (fun b _ hb he => by have := L5.out b he; have := hl3 b hb; omega)
      have r6 := P8.out.2.2.chg c9 (fun b hb1 hb he => by have := L5.out b he; have := L6.out b hb; omega)
      have B9 := Lib.hid (B8.out.trans (c9.below B8.out.size (fun k hk he => by have := L5.out k he; omega)))
      clear c9 o9 hl3
      go_wp2_with fail
      refine (eqNameS_any v6 v3 (nmDrop xs t).1 _ _ _ _ _ r6.rn r3.rn HL.out).mono ?_
      rintro e w10 ⟨rfl, c10⟩
      have s910 := c10.size
      have B10 := Lib.hid (bup B9.out (Nat.le_refl _) c10)
      have P10 := Lib.hid (And.intro (r3.below c10) (r6.below c10))
      clear c10 r3 r6
      go_wp2_with fail
      refine (markNameS_any v6 _ _ (nmDrop xs t).1.length 1 w10 P10.out.2.1 HL.out (by omega) (by omega)).mono ?_
      rintro e w11 ⟨rfl, o11, c11⟩
      have s1011 := c11.size
      have hl3 := O3.out.lt
      have r3 := P10.out.1.chg c11 (fun b _ hb he => by have := L6.out b he; have := hl3 b hb; omega)
      have B11 := Lib.hid (B10.out.trans (c11.below B10.out.size (fun k hk he => by have := L6.out k he; omega)))
      have P11 := Lib.hid (And.intro r3 (reads_own o11))
      have hneg2 : decide ((1 : Int) + 2 * ((nmDrop xs t).1.length : Int) < 0) = false := by simp; omega
      have hq : (((1 : Int) + 2 * ((nmDrop xs t).1.length : Int)) != 1 + 2 * ((nmDrop xs t).1.length : Int)) = false := by simp
      clear c11 o11 r3 hl3
      go_wp2_with fail
      refine (heldNameS_any v6 _ _ (nmDrop xs t).1.length 1 w11 P11.out.2 HL.out (by omega) (by omega)).mono ?_
      rintro e w12 ⟨rfl, c12⟩
      have B12 := Lib.hid (bup B11.out (Nat.le_refl _) c12)
      have P12 := Lib.hid (And.intro (P11.out.1.below c12) (P11.out.2.below c12))
      clear c12
      go_wp2_with fail
      refine (toNameS_any _ xs _ _ _ (H.out.below B12.out) hx1).mono ?_
      rintro e w13 ⟨v8, rfl, o8, c13⟩
      have B13 := Lib.hid (bup B12.out (Nat.le_refl _) c13)
      have P13 := Lib.hid (And.intro (P12.out.1.below c13) (P12.out.2.below c13))
      clear c13
      go_wp2_with fail
      refine (implDrop_any v8 xs t _ _ _ o8.rn hx1).mono ?_
      rintro e w14 ⟨v10, rfl, o14, c14⟩
      have B14 := Lib.hid (bup B13.out (Nat.le_refl _) c14)
      have P14 := Lib.hid (And.intro (P13.out.1.below c14) (And.intro (P13.out.2.below c14) o14))
      clear c14 o8 o14
      go_wp2_with fail
      refine (eqNameS_any v10 v3 (nmDrop xs t).1 _ _ _ _ _ P14.out.2.2.rn P14.out.1.rn HL.out).mono ?_
      rintro e w15 ⟨rfl, c15⟩
      have P15 := Lib.hid (P14.out.2.1.below c15)
      have B15 := Lib.hid (bup B14.out (Nat.le_refl _) c15)
      clear c15
      go_wp2_with fail
      refine (heldNameS_any v6 _ _ (nmDrop xs t).1.length 1 w15 P15.out HL.out (by omega) (by omega)).mono ?_
      rintro e w16 ⟨rfl, c16⟩
      have B16 := Lib.hid (bup B15.out (Nat.le_refl _) c16)
      clear c16
      go_wp2_with fail
      all_goals (go_ret; exact ⟨rfl, B16.out⟩)
    · go_enter Try.func7, Try.ntmps7
      go_wp2_with fail
      refine (szN_no _ xs _ _ _ H.out hx).mono ?_
      rintro e w1 ⟨rfl, b1⟩
      have B1 := Lib.hid b1
      clear b1
      go_wp2_with fail
      all_goals (go_ret; exact ⟨rfl, B1.out⟩)
  · go_enter Try.func7, Try.ntmps7
    go_wp2_with fail
    all_goals (go_ret; exact ⟨rfl, Below.refl _ _⟩)

end Go.Proofs.Ythhganlnljoinaa
