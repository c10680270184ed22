/-
  The walks of the exact laws over SmallFits and PackSmall.
-/
import Derived.Test.YtcjnbjbiiadieaaSml
namespace Go.Proofs.Ytcjnbjbiiadieaa
open Go.RowKit

set_option maxHeartbeats 400000 in
theorem FnExactSmallFits_walk (w : World) (v : Value) (xs : List Int) (h : RI w 0 w.heap.size v xs) :
    Calls Try.prog 7 #[v] w fun e w' => e = .returned (.bool true) ∧ Below w.heap.size w w' := by
  obtain ⟨a, cap, b, off, rfl, -, -, -, -⟩ := h.open
  by_cases hx : xs.length ≤ 1048576
  · have H := Lib.hid h
    clear h
    go_enter Try.func7, Try.ntmps7
    go_wp2_with fail
    refine (toIntS_any _ xs _ _ _ H.out hx).mono ?_
    rintro e w1 ⟨v1, rfl, o1, b1⟩
    go_wp2_with fail
    refine (specFits_any v1 xs _ _ _ o1.ri).mono ?_
    rintro e w' ⟨rfl, rfl⟩
    go_wp2_with fail
    refine (toIntS_any _ xs _ _ _ (H.out.below b1) hx).mono ?_
    rintro e w2 ⟨v2, rfl, o2, b2⟩
    go_wp2_with fail
    refine (implFits_any v2 xs _ _ _ o2.ri).mono ?_
    rintro e w' ⟨rfl, rfl⟩
    go_wp2_with fail
    have b12 := b1.trans (b2.mono b1.size)
    refine (toIntS_any _ xs _ _ _ (H.out.below b12) hx).mono ?_
    rintro e w3 ⟨v3, rfl, o3, b3⟩
    go_wp2_with fail
    refine (eqIntS_any v2 v3 xs _ _ _ _ _ (o2.ri.below b3) o3.ri hx).mono ?_
    rintro e w4 ⟨rfl, b4⟩
    have hfin := Lib.hid ((b12.trans (b3.mono b12.size)).trans (b4.mono (b12.trans (b3.mono b12.size)).size))
    clear b1 b2 b3 b4 b12 o1 o2 o3
    go_wp2_with fail
    all_goals (go_ret; exact ⟨rfl, hfin.out⟩)
  · clear h
    go_enter Try.func7, Try.ntmps7
    go_wp2_with fail
    all_goals (go_ret; exact ⟨rfl, Below.refl _ _⟩)

set_option maxHeartbeats 400000 in
theorem FnExactPackSmall_walk (w : World) (v : Value) (xs : List Int) (h : RI w 0 w.heap.size v xs) :
    Calls Try.prog 11 #[v] w fun e w' => e = .returned (.bool true) ∧ Below w.heap.size w w' := by
  obtain ⟨a, cap, b, off, rfl, -, -, -, -⟩ := h.open
  by_cases hx : xs.length ≤ 1048576
  · have H := Lib.hid h
    clear h
    go_enter Try.func11, Try.ntmps11
    go_wp2_with fail
    refine (toIntS_any _ xs _ _ _ H.out hx).mono ?_
    rintro e w1 ⟨v1, rfl, o1, b1⟩
    go_wp2_with fail
    refine (specPack_any v1 xs _ _ _ o1.ri).mono ?_
    rintro e w' ⟨rfl, rfl⟩
    go_wp2_with fail
    refine (toIntS_any _ xs _ _ _ (H.out.below b1) hx).mono ?_
    rintro e w2 ⟨v2, rfl, o2, b2⟩
    go_wp2_with fail
    refine (implPack_any v2 xs _ _ _ o2.ri).mono ?_
    rintro e w' ⟨rfl, rfl⟩
    go_wp2_with fail
    have b12 := b1.trans (b2.mono b1.size)
    refine (toIntS_any _ xs _ _ _ (H.out.below b12) hx).mono ?_
    rintro e w3 ⟨v3, rfl, o3, b3⟩
    go_wp2_with fail
    refine (eqIntS_any v2 v3 xs _ _ _ _ _ (o2.ri.below b3) o3.ri hx).mono ?_
    rintro e w4 ⟨rfl, b4⟩
    have hfin := Lib.hid ((b12.trans (b3.mono b12.size)).trans (b4.mono (b12.trans (b3.mono b12.size)).size))
    clear b1 b2 b3 b4 b12 o1 o2 o3
    go_wp2_with fail
    all_goals (go_ret; exact ⟨rfl, hfin.out⟩)
  · clear h
    go_enter Try.func11, Try.ntmps11
    go_wp2_with fail
    all_goals (go_ret; exact ⟨rfl, Below.refl _ _⟩)

end Go.Proofs.Ytcjnbjbiiadieaa
