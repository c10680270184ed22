/-
  The walk of the law FnExactExtentsList.
-/
import Derived.Test.YtepgakaccgnebaaExm
namespace Go.Proofs.Ytepgakaccgnebaa
open Go.RowKit

set_option maxHeartbeats 1600000 in
theorem FnExactExtentsList_walk (w : World) (v : Value) (xs : List (Int × Int)) (h : RX w 0 w.heap.size v xs) :
    Calls Try.prog 7 #[v] w fun e w' => e = .returned (.bool true) ∧ Below w.heap.size w w' := by
  have hsz := szExtentS_any v xs _ _ w h
  by_cases hx : xs.length ≤ 1048576
  · rw [if_pos hx] at hsz
    have H := Lib.hid h
    have HL := Lib.hid (exList_len xs)
    clear h
    go_enter Try.func7, Try.ntmps7
    go_wp2_with fail
    refine hsz.mono ?_
    rintro e w' ⟨rfl, rfl⟩
    clear hsz
    go_wp2_with fail
    refine (toExtentS_any _ xs _ _ _ H.out hx).mono ?_
    rintro e w1 ⟨v1, rfl, o1, b1⟩
    go_wp2_with fail
    refine (specExl_any v1 xs _ _ _ o1.rx).mono ?_
    rintro e w2 ⟨v4, rfl, o4, c2⟩
    have b2 := bup b1 (Nat.le_refl _) c2
    have O4 := Lib.hid (And.intro o4 b1.size)
    clear b1 c2 o1 o4
    go_wp2_with fail
    refine (toExtentS_any _ xs _ _ _ (H.out.below b2) hx).mono ?_
    rintro e w3 ⟨v5, rfl, o5, c3⟩
    have b3 := bup b2 (Nat.le_refl _) c3
    have L5 := Lib.hid o5.lt
    have p4 := O4.out.1.below c3
    have s2 := b2.size
    have s23 := c3.size
    clear b2 c3
    go_wp2_with fail
    refine (implExl_any v5 xs _ _ _ o5.rx).mono ?_
    rintro e w4 ⟨v6, rfl, o6, c4⟩
    have b4 := bup b3 (Nat.le_refl _) c4
    have q4 := p4.below c4
    have q5 := o5.below c4
    have s34 := c4.size
    clear b3 c4 p4 o5
    go_wp2_with fail
    refine (eqIntS_any v6 v4 (exList xs) _ _ _ _ _ o6.ri q4.ri (by have := HL.out; omega)).mono ?_
    rintro e w5 ⟨rfl, c5⟩
    have b5 := bup b4 (Nat.le_refl _) c5
    have P := Lib.hid (And.intro (q4.below c5) (And.intro (q5.below c5) (o6.below c5)))
    have s45 := c5.size
    clear b4 c5 q4 q5 o6
    go_wp2_with fail
    refine (toExtentS_any _ xs _ _ _ (H.out.below b5) hx).mono ?_
    rintro e w6 ⟨v7, rfl, o7, c6⟩
    have b6 := bup b5 (Nat.le_refl _) c6
    have P6 := Lib.hid (And.intro (P.out.1.below c6) (And.intro (P.out.2.1.below c6) (P.out.2.2.below c6)))
    have s56 := c6.size
    clear b5 c6
    go_wp2_with fail
    refine (eqExtentS_any v5 v7 xs _ _ _ _ _ P6.out.2.1.rx o7.rx hx).mono ?_
    rintro e w7 ⟨rfl, c7⟩
    have b7 := bup b6 (Nat.le_refl _) c7
    have P7 := Lib.hid (And.intro (P6.out.1.below c7) (And.intro (P6.out.2.1.below c7) (P6.out.2.2.below c7)))
    have s67 := c7.size
    clear b6 c7 o7
    go_wp2_with fail
    refine (markExtentS_any v5 _ _ xs.length 1 w7 P7.out.2.1.1 hx (by omega) (by omega)).mono ?_
    rintro e w8 ⟨rfl, o8, c8, s8⟩
    have hl5 := P7.out.2.1.lt
    have hl5' := (P.out.2.1.lt)
    have hl6 := P7.out.2.2.lt
    have hl4 := P.out.1.lt
    have hl4' := O4.out.1.lt
    have hneg : decide ((1 : Int) + 2 * (xs.length : Int) < 0) = false := by simp; omega
    have r4 := P7.out.1.chg c8 (fun b _ hb he => by have := hl5 b he; have := hl4' b hb; omega)
    have r6 := P7.out.2.2.chg c8 (fun b hb1 hb he => by have := L5.out b he; have := hl6 b hb; omega)
    have b8 := b7.trans (c8.below b7.size (fun k hk he => by have := hl5 k he; omega))
    clear b7 c8 o8 hl5 hl5' hl6 hl4 hl4'
    go_wp2_with fail
    refine (eqIntS_any v6 v4 (exList xs) _ _ _ _ _ r6.ri r4.ri (by have := HL.out; omega)).mono ?_
    rintro e w9 ⟨rfl, c9⟩
    have b9 := bup b8 (Nat.le_refl _) c9
    have P9 := Lib.hid (And.intro (r4.below c9) (r6.below c9))
    have s89 := c9.size
    clear b8 c9 r4 r6
    go_wp2_with fail
    refine (markIntS_any v6 _ _ (exList xs).length 1 w9 P9.out.2.1 (by have := HL.out; omega) (by omega) (by omega)).mono ?_
    rintro e w10 ⟨rfl, o10, c10, s10⟩
    have hl6 := P9.out.2.lt
    have hl4' := O4.out.1.lt
    have r4 := P9.out.1.chg c10 (fun b _ hb he => by have := hl6 b he; have := hl4' b hb; omega)
    have b10 := b9.trans (c10.below b9.size (fun k hk he => by have := hl6 k he; omega))
    have P10 := Lib.hid (And.intro r4 (reads_own o10))
    have hneg2 : decide ((1 : Int) + ((exList xs).length : Int) < 0) = false := by simp; omega
    have hq : (((1 : Int) + ((exList xs).length : Int)) != 1 + ((exList xs).length : Int)) = false := by simp
    clear b9 c10 o10 r4 hl6 hl4'
    go_wp2_with fail
    refine (heldIntS_any v6 _ _ (exList xs).length 1 w10 P10.out.2 (by have := HL.out; omega) (by omega) (by omega)).mono ?_
    rintro e w' ⟨rfl, rfl⟩
    go_wp2_with fail
    refine (toExtentS_any _ xs _ _ _ (H.out.below b10) hx).mono ?_
    rintro e w11 ⟨v8, rfl, o11, c11⟩
    have b11 := bup b10 (Nat.le_refl _) c11
    have P11 := Lib.hid (And.intro (P10.out.1.below c11) (P10.out.2.below c11))
    have s1011 := c11.size
    clear b10 c11
    go_wp2_with fail
    refine (implExl_any v8 xs _ _ _ o11.rx).mono ?_
    rintro e w12 ⟨v10, rfl, o12, c12⟩
    have b12 := bup b11 (Nat.le_refl _) c12
    have P12 := Lib.hid (And.intro (P11.out.1.below c12) (And.intro (P11.out.2.below c12) o12))
    clear b11 c12 o11 o12
    go_wp2_with fail
    refine (eqIntS_any v10 v4 (exList xs) _ _ _ _ _ P12.out.2.2.ri P12.out.1.ri (by have := HL.out; omega)).mono ?_
    rintro e w13 ⟨rfl, c13⟩
    have b13 := bup b12 (Nat.le_refl _) c13
    have P13 := Lib.hid (P12.out.2.1.below c13)
    have B13 := Lib.hid b13
    clear b12 c13 b13
    go_wp2_with fail
    refine (heldIntS_any v6 _ _ (exList xs).length 1 w13 P13.out (by have := HL.out; omega) (by omega) (by omega)).mono ?_
    rintro e w' ⟨rfl, rfl⟩
    go_wp2_with fail
    all_goals (go_ret; exact ⟨rfl, B13.out⟩)
  · rw [if_neg hx] at hsz
    clear h
    go_enter Try.func7, Try.ntmps7
    go_wp2_with fail
    refine hsz.mono ?_
    rintro e w' ⟨rfl, rfl⟩
    clear hsz
    go_wp2_with fail
    all_goals (go_ret; exact ⟨rfl, Below.refl _ _⟩)

end Go.Proofs.Ytepgakaccgnebaa
