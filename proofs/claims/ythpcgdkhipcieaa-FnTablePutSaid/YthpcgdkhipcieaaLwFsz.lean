/-
  The walk of the law FnExactFileSize.
-/
import Derived.Test.YthpcgdkhipcieaaTbg
import Derived.Test.YthpcgdkhipcieaaTbh
namespace Go.Proofs.Ythpcgdkhipcieaa
open Go.RowKit

theorem szT_yes (v : Value) (xs : List (List Int)) (lo hi left : Nat) (w : World) (h : RT w lo hi v xs) (hl : left ≤ 1048576) (hx : tsz xs ≤ left) :
    Calls Try.prog 15 #[.agg #[v], .int .i64 left] w fun e w' => e = .returned (.int .i64 ((left : Int) - tsz xs)) ∧ Below w.heap.size w w' := by
  have c := szTable_any v xs lo hi left w h hl
  rw [if_pos hx] at c
  exact c
theorem szT_no (v : Value) (xs : List (List Int)) (lo hi left : Nat) (w : World) (h : RT w lo hi v xs) (hl : left ≤ 1048576) (hx : ¬ tsz xs ≤ left) :
    Calls Try.prog 15 #[.agg #[v], .int .i64 left] w fun e w' => e = .returned (.int .i64 (-1)) ∧ Below w.heap.size w w' := by
  have c := szTable_any v xs lo hi left w h hl
  rw [if_neg hx] at c
  exact c

set_option maxHeartbeats 2000000 in
theorem FnExactFileSize_walk (w : World) (v : Value) (t : List (List Int)) (h : RT1 w 0 w.heap.size v t) (f : Int) (_hf : I64 f) :
    Calls Try.prog 3 #[v, .int .i64 f] w fun e w' => e = .returned (.bool true) ∧ Below w.heap.size w w' := by
  obtain ⟨s, rfl, h⟩ := h
  obtain ⟨a, cap, b, off, rfl, -⟩ := h.open
  have HB0 := Lib.hid (balloc w (.cells #[.slice a t.length cap] 24))
  have H := Lib.hid (h.below HB0.out)
  have X0 := Lib.hid (heap_alloc_new w (.cells #[.slice a t.length cap] 24))
  clear h
  by_cases hx : tsz t ≤ 1048576
  · go_enter Try.func3, Try.ntmps3
    go_wp2_with fail
    refine (szT_yes _ t _ _ 1048576 _ H.out (Nat.le_refl _) hx).mono ?_
    rintro e w1 ⟨rfl, c⟩
    have hneg : decide ((1048576 : Int) - (tsz t : Int) < 0) = false := by simp; omega
    have B := Lib.hid c
    replace X0 := Lib.hid (box_keep X0.out c)
    obtain ⟨hb, -⟩ := one_at X0.out
    clear c
    go_wp2_with fail
    refine (toTable_any _ t _ _ _ (H.out.below B.out) hx).mono ?_
    rintro e w2 ⟨v2, rfl, o2, c⟩
    replace B := Lib.hid (bup2 B.out c)
    replace X0 := Lib.hid (box_keep X0.out c)
    clear c hb
    go_wp2_with fail
    refine (specFsz_any _ t f _ _ _ o2.rt).mono ?_
    rintro e w3 ⟨rfl, c⟩
    replace B := Lib.hid (bup2 B.out c)
    replace X0 := Lib.hid (box_keep X0.out c)
    obtain ⟨hb, -⟩ := one_at X0.out
    clear c o2
    go_wp2_with fail
    refine (toTable_any _ t _ _ _ (H.out.below B.out) hx).mono ?_
    rintro e w4 ⟨v4, rfl, o4, c⟩
    obtain ⟨a4, cap4, b4, off4, rfl, -⟩ := o4.rt.open
    have O4 := Lib.hid (o4.below (balloc w4 (.cells #[.slice a4 t.length cap4] 27)))
    replace B := Lib.hid (bup2 (bup2 B.out c) (balloc w4 (.cells #[.slice a4 t.length cap4] 27)))
    replace X0 := Lib.hid (box_keep (box_keep X0.out c) (balloc w4 (.cells #[.slice a4 t.length cap4] 27)))
    have X4 := Lib.hid (heap_alloc_new w4 (.cells #[.slice a4 t.length cap4] 27))
    clear c hb o4
    go_wp2_with fail
    refine (implFsz_any _ t f _ _ _ O4.out.rt).mono ?_
    rintro e w5 ⟨rfl, c⟩
    replace B := Lib.hid (bup2 B.out c)
    replace X0 := Lib.hid (box_keep X0.out c)
    replace X4 := Lib.hid (box_keep X4.out c)
    replace O4 := Lib.hid (O4.out.below c)
    have hnn : (fsz t f != fsz t f) = false := by simp
    obtain ⟨hb0, -⟩ := one_at X0.out
    obtain ⟨hb4, -⟩ := one_at X4.out
    have HD := Lib.hid (H.out.below (bup2 B.out (bdrew w5)))
    have O4D := Lib.hid (O4.out.below (bdrew w5))
    clear c
    go_wp2_with fail
    go_region_held3 (fun w' => w'.cell? ⟨w.heap.size, 0, none⟩ = some (.slice a t.length cap) ∧ w'.cell? ⟨w4.heap.size, 0, none⟩ = some (.slice a4 t.length cap4))
      (first | exact ⟨hb0, hb4⟩ | exact ⟨cell_later (w := w5.drew) (by assumption) hb0, cell_later (w := w5.drew) (by assumption) hb4⟩ | exact ⟨cell_later (w := w5.drew) (bup2 (b := wa) (by assumption) (by assumption)) hb0, cell_later (w := w5.drew) (bup2 (b := wa) (by assumption) (by assumption)) hb4⟩)
      (first | (go_at_call 17; refine (toTable_any _ t _ _ _ HD.out hx).mono ?_; rintro e wa ⟨va, rfl, oa, ca⟩)
             | (go_at_call 19; refine (eqTable_any _ _ t _ _ _ _ _ (OT.rt (OT.below (w := w5.drew) O4D.out (by assumption))) (OT.rt (by assumption)) hx).mono ?_; rintro e wb ⟨rfl, cb⟩))
    have ca' : Below w5.drew.heap.size w5.drew wa := by assumption
    have cb' : Below wa.heap.size wa wb := by assumption
    have HF := Lib.hid (bup2 HB0.out (bup2 B.out (bup2 (bdrew w5) (bup2 ca' cb'))))
    clear ca' cb'
    go_wp2_with fail
    all_goals (go_ret; exact ⟨rfl, HF.out⟩)
  · go_enter Try.func3, Try.ntmps3
    go_wp2_with fail
    refine (szT_no _ t _ _ 1048576 _ H.out (Nat.le_refl _) hx).mono ?_
    rintro e w1 ⟨rfl, c⟩
    have HF := Lib.hid (bup2 HB0.out c)
    clear c
    go_wp2_with fail
    all_goals (go_ret; exact ⟨rfl, HF.out⟩)

end Go.Proofs.Ythpcgdkhipcieaa
