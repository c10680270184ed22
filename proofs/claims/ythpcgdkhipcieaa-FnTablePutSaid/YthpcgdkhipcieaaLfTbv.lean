/-
  The walk of the law FnTableValid.
-/
import Derived.Test.YthpcgdkhipcieaaTlw
import Derived.Test.YthpcgdkhipcieaaTbe
namespace Go.Proofs.Ythpcgdkhipcieaa
open Go.RowKit

theorem implTbv_nil (w : World) : Calls Try.prog 29 #[.agg #[.slice none 0 0]] w fun e w' => e = .returned (.bool false) ∧ Below w.heap.size w w' := by
  have c := implTbv_any (.slice none 0 0) [] 0 0 w (rt_nil _ _ _)
  rw [show tabVal [] = false from by decide] at c
  exact c
theorem implTbv_yes (v : Value) (t : List (List Int)) (lo hi : Nat) (w : World) (h : RT w lo hi v t) (hv : tabVal t = true) : Calls Try.prog 29 #[.agg #[v]] w fun e w' => e = .returned (.bool true) ∧ Below w.heap.size w w' := by
  have c := implTbv_any v t lo hi w h
  rw [hv] at c
  exact c

set_option maxHeartbeats 2000000 in
theorem FnTableValid_walk (w : World) (v : Value) (bs : List Int) (h : RB w 0 w.heap.size v bs) :
    Calls Try.prog 8 #[v] w fun e w' => e = .returned (.bool true) ∧ Below w.heap.size w w' := by
  have HB := Lib.hid h
  obtain ⟨a, cap, b, off, rfl, -⟩ := h.open
  clear h
  by_cases hl : bs.length ≤ 1048576
  · go_enter Try.func8, Try.ntmps8
    go_wp2_with fail
    refine (dTableValid _ _ bs HB.out).mono ?_
    rintro e w1 ⟨v1, t, rfl, ⟨o1, ht⟩, b1⟩
    obtain ⟨a1, cap1, b1', off1, rfl, -⟩ := o1.open
    have H1 := Lib.hid (tlw_new o1 b1)
    clear o1 b1 HB
    go_wp2_with fail
    refine (implTbv_any _ t _ _ _ H1.out.rt).mono ?_
    rintro e w2 ⟨rfl, b2⟩
    have H2 := Lib.hid (H1.out.below b2)
    have d2 := H2.out.cell
    obtain ⟨ok, hok⟩ : ∃ ok, ok = tabVal t := ⟨_, rfl⟩
    rw [← hok]
    have HOK := Lib.hid hok
    clear b2 H1 hok
    go_wp2_with fail
    refine (specTbv_any _ t _ _ _ H2.out.rt).mono ?_
    rintro e w3 ⟨rfl, b3⟩
    have H3 := Lib.hid (H2.out.below b3)
    have d3 := H3.out.cell
    rw [← HOK.out]
    have hbb : (ok != ok) = false := by simp
    clear b3 H2 d2
    go_wp2_with fail
    refine (implTbv_nil _).mono ?_
    rintro e w4 ⟨rfl, b4⟩
    have H4 := Lib.hid (H3.out.below b4)
    have d4 := H4.out.cell
    clear b4 H3 d3
    cases ok
    · have HF := Lib.hid H4.out.bel
      go_wp2_with fail
      refine (alive_any _).mono ?_
      rintro e w' ⟨rfl, rfl⟩
      go_wp2_with fail
      all_goals (go_ret; exact ⟨rfl, HF.out⟩)
    · go_wp2_with fail
      refine (implCut_any _ t 0 0 _ _ _ H4.out.rt).mono ?_
      rintro e w5 ⟨v5, rfl, o5, b5⟩
      have H5 := Lib.hid (And.intro o5 (H4.out.below b5))
      clear o5 b5 H4
      go_wp2_with fail
      refine (implTbv_yes _ _ _ _ _ H5.out.1.rt (tcut_val HOK.out.symm (f := 0) (p := 0) (by have := tab_len HOK.out.symm; omega) (by omega))).mono ?_
      rintro e w6 ⟨rfl, b6⟩
      have HF := Lib.hid (H5.out.2.below b6).bel
      clear b6
      go_wp2_with fail
      refine (alive_any _).mono ?_
      rintro e w' ⟨rfl, rfl⟩
      go_wp2_with fail
      all_goals (go_ret; exact ⟨rfl, HF.out⟩)
  · go_enter Try.func8, Try.ntmps8
    go_wp2_with fail
    all_goals (go_ret; exact ⟨rfl, Below.refl _ _⟩)

end Go.Proofs.Ythpcgdkhipcieaa
