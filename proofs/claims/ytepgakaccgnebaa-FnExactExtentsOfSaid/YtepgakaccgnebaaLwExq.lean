/-
  The walk of the law FnExactExtentsOf.
-/
import Derived.Test.YtepgakaccgnebaaExq
namespace Go.Proofs.Ytepgakaccgnebaa
open Go.RowKit

theorem exOf_len (xs : List Int) : (exOf xs).1.length ≤ 8 := by
  unfold exOf fin
  split
  · rename_i h; exact (exVal_ok h).1
  · simp

set_option maxHeartbeats 1600000 in
theorem FnExactExtentsOf_walk (w : World) (v : Value) (xs : List Int) (h : RI w 0 w.heap.size v xs) :
    Calls Try.prog 9 #[v] w fun e w' => e = .returned (.bool true) ∧ Below w.heap.size w w' := by
  obtain ⟨a, cap, b, off, rfl, -, -, -, -⟩ := h.open
  by_cases hx : xs.length ≤ 1048576
  · have H := Lib.hid h
    clear h
    have HL := Lib.hid (exOf_len xs)
    go_enter Try.func9, Try.ntmps9
    go_wp2_with fail
    refine (toIntS_any _ xs _ _ _ H.out hx).mono ?_
    rintro e w1 ⟨v1, rfl, o1, b1⟩
    go_wp2_with fail
    refine (specOf_any v1 xs _ _ _ o1.ri hx).mono ?_
    rintro e w2 ⟨v3, rfl, o3, c2⟩
    have b2 := bup b1 (Nat.le_refl _) c2
    have O3 := Lib.hid o3
    have s12 := c2.size
    clear b1 c2 o1 o3
    go_wp2_with fail
    refine (toIntS_any _ xs _ _ _ (H.out.below b2) hx).mono ?_
    rintro e w3 ⟨v5, rfl, o5, c3⟩
    have b3 := bup b2 (Nat.le_refl _) c3
    have L5 := Lib.hid o5.lt
    have p3 := O3.out.below c3
    have s2 := b2.size
    have s23 := c3.size
    clear b2 c3
    go_wp2_with fail
    refine (implOf_any v5 xs _ _ _ o5.ri hx).mono ?_
    rintro e w4 ⟨v6, rfl, o6, c4⟩
    have b4 := bup b3 (Nat.le_refl _) c4
    have q3 := p3.below c4
    have q5 := o5.below c4
    have s34 := c4.size
    clear b3 c4 p3 o5
    go_wp2_with fail
    have hbb : ((exOf xs).2 != (exOf xs).2) = false := by simp
    refine (eqExtentS_any v6 v3 (exOf xs).1 _ _ _ _ _ o6.rx q3.rx (by have := HL.out; omega)).mono ?_
    rintro e w5 ⟨rfl, c5⟩
    have b5 := bup b4 (Nat.le_refl _) c5
    have P5 := Lib.hid (And.intro (q3.below c5) (And.intro (q5.below c5) (o6.below c5)))
    have s45 := c5.size
    clear b4 c5 q3 q5 o6
    go_wp2_with fail
    refine (toIntS_any _ xs _ _ _ (H.out.below b5) hx).mono ?_
    rintro e w6 ⟨v7, rfl, o7, c6⟩
    have b6 := bup b5 (Nat.le_refl _) c6
    have P6 := Lib.hid (And.intro (P5.out.1.below c6) (And.intro (P5.out.2.1.below c6) (P5.out.2.2.below c6)))
    have s56 := c6.size
    clear b5 c6
    go_wp2_with fail
    refine (eqIntS_any v5 v7 xs _ _ _ _ _ P6.out.2.1.ri o7.ri hx).mono ?_
    rintro e w7 ⟨rfl, c7⟩
    have b7 := bup b6 (Nat.le_refl _) c7
    have P7 := Lib.hid (And.intro (P6.out.1.below c7) (And.intro (P6.out.2.1.below c7) (P6.out.2.2.below c7)))
    have s67 := c7.size
    clear b6 c7 o7
    go_wp2_with fail
    refine (markIntS_any v5 _ _ xs.length 1 w7 P7.out.2.1.1 hx (by omega) (by omega)).mono ?_
    rintro e w8 ⟨rfl, o8, c8, s8⟩
    have hl5 := P7.out.2.1.lt
    have hl6 := P7.out.2.2.lt
    have hl3 := O3.out.lt
    have hneg : decide ((1 : Int) + (xs.length : Int) < 0) = false := by simp; omega
    have r3 := P7.out.1.chg c8 (fun b _ hb he => by have := hl5 b he; have := hl3 b hb; omega)
    have r6 := P7.out.2.2.chg c8 (fun b hb1 hb he => by have := L5.out b he; have := hl6 b hb; omega)
    have b8 := b7.trans (c8.below b7.size (fun k hk he => by have := hl5 k he; omega))
    clear b7 c8 o8 hl5 hl6 hl3
    go_wp2_with fail
    refine (eqExtentS_any v6 v3 (exOf xs).1 _ _ _ _ _ r6.rx r3.rx (by have := HL.out; omega)).mono ?_
    rintro e w9 ⟨rfl, c9⟩
    have b9 := bup b8 (Nat.le_refl _) c9
    have P9 := Lib.hid (And.intro (r3.below c9) (r6.below c9))
    have s89 := c9.size
    clear b8 c9 r3 r6
    go_wp2_with fail
    refine (markExtentS_any v6 _ _ (exOf xs).1.length 1 w9 P9.out.2.1 (by have := HL.out; omega) (by omega) (by omega)).mono ?_
    rintro e w10 ⟨rfl, o10, c10, s10⟩
    have hl6 := P9.out.2.lt
    have hl3 := O3.out.lt
    have r3 := P9.out.1.chg c10 (fun b _ hb he => by have := hl6 b he; have := hl3 b hb; omega)
    have b10 := b9.trans (c10.below b9.size (fun k hk he => by have := hl6 k he; omega))
    have P10 := Lib.hid (And.intro r3 (reads_own o10))
    have hneg2 : decide ((1 : Int) + 2 * ((exOf xs).1.length : Int) < 0) = false := by simp; omega
    have hq : (((1 : Int) + 2 * ((exOf xs).1.length : Int)) != 1 + 2 * ((exOf xs).1.length : Int)) = false := by simp
    clear b9 c10 o10 r3 hl6 hl3
    go_wp2_with fail
    refine (heldExtentS_any v6 _ _ (exOf xs).1.length 1 w10 P10.out.2 (by have := HL.out; omega) (by omega) (by omega)).mono ?_
    rintro e w' ⟨rfl, rfl⟩
    go_wp2_with fail
    refine (toIntS_any _ xs _ _ _ (H.out.below b10) hx).mono ?_
    rintro e w11 ⟨v8, rfl, o11, c11⟩
    have b11 := bup b10 (Nat.le_refl _) c11
    have P11 := Lib.hid (And.intro (P10.out.1.below c11) (P10.out.2.below c11))
    have s1011 := c11.size
    clear b10 c11
    go_wp2_with fail
    refine (implOf_any v8 xs _ _ _ o11.ri hx).mono ?_
    rintro e w12 ⟨v10, rfl, o12, c12⟩
    have b12 := bup b11 (Nat.le_refl _) c12
    have P12 := Lib.hid (And.intro (P11.out.1.below c12) (And.intro (P11.out.2.below c12) o12))
    clear b11 c12 o11 o12
    go_wp2_with fail
    refine (eqExtentS_any v10 v3 (exOf xs).1 _ _ _ _ _ P12.out.2.2.rx P12.out.1.rx (by have := HL.out; omega)).mono ?_
    rintro e w13 ⟨rfl, c13⟩
    have b13 := bup b12 (Nat.le_refl _) c13
    have P13 := Lib.hid (P12.out.2.1.below c13)
    have B13 := Lib.hid b13
    clear b12 c13 b13
    go_wp2_with fail
    refine (heldExtentS_any v6 _ _ (exOf xs).1.length 1 w13 P13.out (by have := HL.out; omega) (by omega) (by omega)).mono ?_
    rintro e w' ⟨rfl, rfl⟩
    go_wp2_with fail
    all_goals (go_ret; exact ⟨rfl, B13.out⟩)
  · clear h
    go_enter Try.func9, Try.ntmps9
    go_wp2_with fail
    all_goals (go_ret; exact ⟨rfl, Below.refl _ _⟩)

end Go.Proofs.Ytepgakaccgnebaa
