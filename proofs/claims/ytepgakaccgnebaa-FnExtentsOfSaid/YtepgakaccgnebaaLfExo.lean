/-
  The walk of the law FnExtentsOf.
-/
import Derived.Test.YtepgakaccgnebaaLfExl
namespace Go.Proofs.Ytepgakaccgnebaa
open Go.RowKit

set_option maxHeartbeats 1000000 in
theorem FnExtentsOf_walk (w : World) (v : Value) (bs : List Int) (h : RB w 0 w.heap.size v bs) :
    Calls Try.prog 10 #[v] w fun e w' => e = .returned (.bool true) ∧ Below w.heap.size w w' := by
  have H := Lib.hid h
  obtain ⟨a, cap, b, off, rfl, -⟩ := h.open
  clear h
  by_cases hl : bs.length ≤ 1048576
  · go_enter Try.func10, Try.ntmps10
    go_wp2_with fail
    refine (drawExtentsOf _ _ bs H.out).mono ?_
    rintro e w1 ⟨v, xs, rfl, hx, o1, b1⟩
    have O1 := Lib.hid (And.intro o1 b1)
    have HI := Lib.hid o1.2
    clear o1 b1
    have hl8 := exOf_le xs
    go_wp2_with fail
    refine (implOf_any _ xs _ _ _ O1.out.1.ri (by omega)).mono ?_
    rintro e w2 ⟨v2, rfl, o2, b2⟩
    have O2 := Lib.hid (And.intro (O1.out.1.below b2) (And.intro o2 (bup O1.out.2 (Nat.le_refl _) b2)))
    clear o2 b2
    go_wp2_with fail
    refine (specOf_any _ xs _ _ _ O2.out.1.ri (by omega)).mono ?_
    rintro e w3 ⟨v3, rfl, o3, b3⟩
    have O3 := Lib.hid (And.intro (O2.out.1.below b3) (And.intro (O2.out.2.1.below b3) (And.intro o3 (bup O2.out.2.2 (Nat.le_refl _) b3))))
    clear o3 b3
    obtain ⟨ok, hok⟩ : ∃ ok, ok = (exOf xs).2 := ⟨_, rfl⟩
    have HOK := Lib.hid hok
    clear hok
    rw [← HOK.out]
    have hbb : (ok != ok) = false := by simp
    go_wp2_with fail
    refine (sameExtents_any _ _ (exOf xs).1 _ _ _ _ _ O3.out.2.1.rx O3.out.2.2.1.rx (by omega)).mono ?_
    rintro e w4 ⟨rfl, b4⟩
    have O4 := Lib.hid (And.intro (O3.out.1.below b4) (And.intro (O3.out.2.1.below b4) (bup O3.out.2.2.2 (Nat.le_refl _) b4)))
    clear b4
    cases ok
    · have he := exOf_no HOK.out.symm
      have O6 := Lib.hid (And.intro O4.out.2.1.rx O4.out.2.2)
      rw [he] at O6
      obtain ⟨a6, cap6, b6, off6, rfl, q1, q2, -, -⟩ := O6.out.1.open
      clear he
      simp only [List.length_nil] at *
      go_wp2_with fail
      refine (alive_any _).mono ?_
      rintro e w' ⟨rfl, rfl⟩
      go_wp2_with fail
      all_goals (go_ret; exact ⟨rfl, O6.out.2⟩)
    · have hb := exOf_back HI.out (by omega) HOK.out.symm
      have HB := Lib.hid hb
      have hle := hb.2.2
      clear hb
      generalize hys : (exOf xs).1 = ys at *
      clear hys
      have c := fun wx lo hi h => implExv_any v2 ys lo hi wx h
      rw [HB.out.1] at c
      have C := Lib.hid c
      have d := fun wx lo hi h => implExl_any v2 ys lo hi wx h
      rw [HB.out.2.1] at d
      have D := Lib.hid d
      clear c d
      go_wp2_with fail
      refine (C.out _ _ _ O4.out.2.1.rx).mono ?_
      rintro e w5 ⟨rfl, b5⟩
      have O5 := Lib.hid (And.intro (O4.out.1.below b5) (And.intro (O4.out.2.1.below b5) (bup O4.out.2.2 (Nat.le_refl _) b5)))
      clear b5
      go_wp2_with fail
      refine (D.out _ _ _ O5.out.2.1.rx).mono ?_
      rintro e w6 ⟨v6, rfl, o6, b6⟩
      have O6 := Lib.hid (And.intro (O5.out.1.below b6) (And.intro (O5.out.2.1.below b6) (And.intro o6 (bup O5.out.2.2 (Nat.le_refl _) b6))))
      clear o6 b6
      go_wp2_with fail
      refine (sameInts_self _ _ xs _ _ _ _ _ O6.out.2.2.1.ri O6.out.1.ri (by omega)).mono ?_
      rintro e w7 ⟨rfl, b7⟩
      have O7 := Lib.hid (And.intro (O6.out.1.below b7) (And.intro (O6.out.2.1.below b7) (bup O6.out.2.2.2 (Nat.le_refl _) b7)))
      clear b7
      obtain ⟨a8, cap8, b8, off8, rfl, -⟩ := O7.out.1.ri.open
      obtain ⟨a9, cap9, b9, off9, rfl, -⟩ := O7.out.2.1.rx.open
      go_wp2_with fail
      all_goals (go_ret; exact ⟨rfl, O7.out.2.2⟩)
  · go_enter Try.func10, Try.ntmps10
    go_wp2_with fail
    all_goals (go_ret; exact ⟨rfl, Below.refl _ _⟩)

end Go.Proofs.Ytepgakaccgnebaa
