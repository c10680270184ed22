/-
  The walk of the law FnExactExtentAt.
-/
import Derived.Test.YtepgakaccgnebaaExa
namespace Go.Proofs.Ytepgakaccgnebaa
open Go.RowKit

theorem FnExactExtentAt_walk (w : World) (v : Value) (xs : List (Int × Int)) (h : RX w 0 w.heap.size v xs) (n : Int) (hn : I64 n) :
    Calls Try.prog 5 #[v, .int .i64 n] w fun e w' => e = .returned (.bool true) ∧ Below w.heap.size w w' := by
  have hsz := szExtentS_any v xs _ _ w h
  by_cases hx : xs.length ≤ 1048576
  · rw [if_pos hx] at hsz
    have H := Lib.hid h
    clear h
    have HN := Lib.hid hn
    clear hn
    go_enter Try.func5, Try.ntmps5
    go_wp2_with fail
    refine hsz.mono ?_
    rintro e w' ⟨rfl, rfl⟩
    clear hsz
    go_wp2_with fail
    refine (toExtentS_any _ xs _ _ _ H.out hx).mono ?_
    rintro e w1 ⟨v1, rfl, o1, b1⟩
    go_wp2_with fail
    refine (specAt_any v1 xs _ _ n HN.out _ o1.rx).mono ?_
    rintro e w2 ⟨rfl, b2⟩
    have b12 := b1.trans (b2.mono b1.size)
    clear b1 b2 o1
    go_wp2_with fail
    refine (toExtentS_any _ xs _ _ _ (H.out.below b12) hx).mono ?_
    rintro e w3 ⟨v2, rfl, o2, b3⟩
    have b13 := b12.trans (b3.mono b12.size)
    clear b12 b3
    go_wp2_with fail
    refine (implAt_any v2 xs _ _ n _ o2.rx).mono ?_
    rintro e w4 ⟨rfl, b4⟩
    have o2' := o2.below b4
    have b14 := b13.trans (b4.mono b13.size)
    clear b13 b4 o2
    go_wp2_with fail
    refine (toExtentS_any _ xs _ _ _ (H.out.below b14) hx).mono ?_
    rintro e w5 ⟨v3, rfl, o3, b5⟩
    go_wp2_with fail
    refine (eqExtentS_any v2 v3 xs _ _ _ _ _ (o2'.rx.below b5) o3.rx hx).mono ?_
    rintro e w6 ⟨rfl, b6⟩
    have b15 := b14.trans (b5.mono b14.size)
    have hfin := Lib.hid (b15.trans (b6.mono b15.size))
    clear b14 b15 b5 b6 o2' o3
    go_wp2_with fail
    all_goals (go_ret; exact ⟨rfl, hfin.out⟩)
  · rw [if_neg hx] at hsz
    clear h
    go_enter Try.func5, Try.ntmps5
    go_wp2_with fail
    refine hsz.mono ?_
    rintro e w' ⟨rfl, rfl⟩
    clear hsz
    go_wp2_with fail
    all_goals (go_ret; exact ⟨rfl, Below.refl _ _⟩)

end Go.Proofs.Ytepgakaccgnebaa
