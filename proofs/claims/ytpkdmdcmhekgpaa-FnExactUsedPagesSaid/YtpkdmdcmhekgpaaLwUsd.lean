/-
  The walk of the law FnExactUsedPages.
-/
import Derived.Test.YtpkdmdcmhekgpaaTbw
import Derived.Test.YtpkdmdcmhekgpaaUpw
namespace Go.Proofs.Ytpkdmdcmhekgpaa
open Go.RowKit

set_option maxHeartbeats 4000000 in
theorem FnExactUsedPages_walk (w : World) (v : Value) (t : List (List Int)) (h : RT1 w 0 w.heap.size v t) :
    Calls Try.prog 3 #[v] w fun e w' => e = .returned (.bool true) ∧ Below w.heap.size w w' := by
  obtain ⟨s, rfl, h⟩ := h
  obtain ⟨a, cap, b, off, rfl, -⟩ := h.open
  obtain ⟨w0, hw0⟩ : ∃ w0 : World, w0 = w.alloc (.cells #[.slice a t.length cap] 24) := ⟨_, rfl⟩
  have HB0 : Hid (Below w.heap.size w w0) := Lib.hid (by rw [hw0]; exact balloc w _)
  have H := Lib.hid (h.below HB0.out)
  have X0 : Hid (w0.heap[w.heap.size]? = some (.cells #[.slice a t.length cap] 24)) := Lib.hid (by rw [hw0]; exact heap_alloc_new w _)
  have z0 : w0.heap.size = w.heap.size + 1 := by rw [hw0]; simp
  have HW := Lib.hid hw0
  have hl6 := used_len t
  generalize hho : used t = hs at *
  have HH := Lib.hid hho
  clear h hw0 hho
  by_cases hx : tsz t ≤ 1048576
  · have htf := toff_le t t.length
    go_enter Try.func3, Try.ntmps3
    go_wp2_with fail
    rw [← HW.out]
    refine (szT_yes _ t _ _ 1048576 _ H.out (Nat.le_refl _) hx).mono ?_
    rintro e w1 ⟨rfl, c⟩
    have hneg : decide ((1048576 : Int) - (tsz t : Int) < 0) = false := by simp; omega
    have B := Lib.hid c
    obtain ⟨hb, -⟩ := one_at (box_keep X0.out B.out)
    clear c
    go_wp2_with fail
    refine (toTable_any _ t _ _ _ (H.out.below B.out) hx).mono ?_
    rintro e w2 ⟨v2, rfl, o2, c⟩
    replace B := Lib.hid (bup2 B.out c)
    clear c hb
    go_wp2_with fail
    have c3 := specUsed_any _ t _ _ _ o2.rt
    rw [HH.out] at c3
    refine c3.mono ?_
    clear c3
    rintro e w3 ⟨e3, rfl, o3, c⟩
    have E := Lib.hid o3.ii
    replace B := Lib.hid (bup2 B.out c)
    have z3 := B.out.size
    have z23 := c.size
    obtain ⟨hb, -⟩ := one_at (box_keep X0.out B.out)
    clear c o2 o3
    go_wp2_with fail
    refine (toTable_any _ t _ _ _ (H.out.below B.out) hx).mono ?_
    rintro e w4 ⟨v4, rfl, o4, c⟩
    obtain ⟨a4, cap4, b4, off4, rfl, -⟩ := o4.rt.open
    obtain ⟨w5, hw5⟩ : ∃ w5 : World, w5 = w4.alloc (.cells #[.slice a4 t.length cap4] 28) := ⟨_, rfl⟩
    have c5 : Below w4.heap.size w4 w5 := by rw [hw5]; exact balloc w4 _
    have X4 : Hid (w5.heap[w4.heap.size]? = some (.cells #[.slice a4 t.length cap4] 28)) := Lib.hid (by rw [hw5]; exact heap_alloc_new w4 _)
    have z34 := c.size
    have z45 : w5.heap.size = w4.heap.size + 1 := by rw [hw5]; simp
    have G := Lib.hid (o4.below c5)
    replace B := Lib.hid (bup2 B.out (bup2 c c5))
    replace E := Lib.hid (E.out.below (bup2 c c5))
    replace HW := Lib.hid hw5
    clear c c5 hb o4 hw5
    go_wp2_with fail
    rw [← HW.out]
    have c6 := implUsed_any _ t _ _ _ G.out.rt
    rw [HH.out] at c6
    refine c6.mono ?_
    clear c6
    rintro e w6 ⟨v6, rfl, o6, c⟩
    have V := Lib.hid o6.ii
    have z56 := c.size
    replace B := Lib.hid (bup2 B.out c)
    replace E := Lib.hid (E.out.below c)
    replace G := Lib.hid (G.out.below c)
    replace X4 := Lib.hid (box_keep X4.out c)
    clear c o6
    go_wp2_with fail
    refine (eqIntS_any v6 e3 hs _ _ _ _ _ V.out.ri E.out.ri (by omega)).mono ?_
    rintro e w7 ⟨rfl, c⟩
    replace B := Lib.hid (bup2 B.out c)
    replace E := Lib.hid (E.out.below c)
    replace G := Lib.hid (G.out.below c)
    replace V := Lib.hid (V.out.below c)
    replace X4 := Lib.hid (box_keep X4.out c)
    clear c
    obtain ⟨hb0, -⟩ := one_at (box_keep X0.out B.out)
    obtain ⟨hb4, -⟩ := one_at X4.out
    have HD := Lib.hid (H.out.below (bup2 B.out (bdrew w7)))
    have GD := Lib.hid (G.out.below (bdrew w7))
    go_wp2_with fail
    go_region_held3 (fun w' => w'.cell? ⟨w.heap.size, 0, none⟩ = some (.slice a t.length cap) ∧ w'.cell? ⟨w4.heap.size, 0, none⟩ = some (.slice a4 t.length cap4))
      (first | exact ⟨hb0, hb4⟩ | exact ⟨cell_later (w := w7.drew) (by assumption) hb0, cell_later (w := w7.drew) (by assumption) hb4⟩ | exact ⟨cell_later (w := w7.drew) (bup2 (b := wa) (by assumption) (by assumption)) hb0, cell_later (w := w7.drew) (bup2 (b := wa) (by assumption) (by assumption)) hb4⟩)
      (first | (go_at_call 7; refine (toTable_any _ t _ _ _ HD.out hx).mono ?_; rintro e wa ⟨va, rfl, oa, ca⟩)
             | (go_at_call 10; refine (eqTable_any _ _ t _ _ _ _ _ (OT.rt (OT.below (w := w7.drew) GD.out (by assumption))) (OT.rt (by assumption)) hx).mono ?_; rintro e wb ⟨rfl, cb⟩))
    have ca' : Below w7.drew.heap.size w7.drew wa := by assumption
    have cb' : Below wa.heap.size wa wb := by assumption
    have c := bup2 (bdrew w7) (bup2 ca' cb')
    replace B := Lib.hid (bup2 B.out c)
    replace E := Lib.hid (E.out.below c)
    replace G := Lib.hid (G.out.below c)
    replace V := Lib.hid (V.out.below c)
    replace X4 := Lib.hid (box_keep X4.out c)
    clear c ca' cb' HD GD hb0 hb4
    obtain ⟨hb4, -⟩ := one_at X4.out
    have hneg2 : decide ((1 : Int) + (toff t t.length : Int) < 0) = false := by simp; omega
    go_wp2_with fail
    refine (markTable_any _ t _ _ 1 _ G.out hx (by omega) (by omega)).mono ?_
    rintro e w8 ⟨rfl, -, c⟩
    replace B := Lib.hid (up_chg B.out c (by omega))
    replace E := Lib.hid (E.out.chg c (by omega))
    replace V := Lib.hid (V.out.chg c (by omega))
    clear c hb4 G X4
    go_wp2_with fail
    refine (eqIntS_any v6 e3 hs _ _ _ _ _ V.out.ri E.out.ri (by omega)).mono ?_
    rintro e w9 ⟨rfl, c⟩
    replace B := Lib.hid (bup2 B.out c)
    replace E := Lib.hid (E.out.below c)
    replace V := Lib.hid (V.out.below c)
    clear c
    go_wp2_with fail
    refine (markII v6 hs _ _ 1 _ V.out (by omega) (by omega) (by omega)).mono ?_
    rintro e w10 ⟨rfl, o10, c⟩
    replace V := Lib.hid o10
    replace B := Lib.hid (up_chg B.out c (by omega))
    replace E := Lib.hid (E.out.chg c (by omega))
    have hneg3 : decide ((1 : Int) + (hs.length : Int) < 0) = false := by simp; omega
    have hnn : ((1 : Int) + (hs.length : Int) != (1 : Int) + (hs.length : Int)) = false := by simp
    clear c o10
    obtain ⟨hb0, -⟩ := one_at (box_keep X0.out B.out)
    go_wp2_with fail
    refine (heldII v6 hs.length _ _ 1 _ V.out (by omega) (by omega) (by omega)).mono ?_
    rintro e w11 ⟨rfl, rfl⟩
    go_wp2_with fail
    refine (toTable_any _ t _ _ _ (H.out.below B.out) hx).mono ?_
    rintro e w12 ⟨v12, rfl, o12, c⟩
    replace B := Lib.hid (bup2 B.out c)
    replace E := Lib.hid (E.out.below c)
    replace V := Lib.hid (V.out.below c)
    clear c hb0
    go_wp2_with fail
    have c13 := implUsed_any _ t _ _ _ o12.rt
    rw [HH.out] at c13
    refine c13.mono ?_
    clear c13
    rintro e w13 ⟨v13, rfl, o13, c⟩
    replace B := Lib.hid (bup2 B.out c)
    replace E := Lib.hid (E.out.below c)
    replace V := Lib.hid (V.out.below c)
    have O13 := Lib.hid o13.ii
    clear c o13 o12
    go_wp2_with fail
    refine (eqIntS_any v13 e3 hs _ _ _ _ _ O13.out.ri E.out.ri (by omega)).mono ?_
    rintro e w14 ⟨rfl, c⟩
    replace B := Lib.hid (bup2 B.out c)
    replace V := Lib.hid (V.out.below c)
    clear c
    go_wp2_with fail
    refine (heldII v6 hs.length _ _ 1 _ V.out (by omega) (by omega) (by omega)).mono ?_
    rintro e w15 ⟨rfl, rfl⟩
    have HF := Lib.hid (bup2 HB0.out B.out)
    go_wp2_with fail
    all_goals (go_ret; exact ⟨rfl, HF.out⟩)
  · go_enter Try.func3, Try.ntmps3
    go_wp2_with fail
    rw [← HW.out]
    refine (szT_no _ t _ _ 1048576 _ H.out (Nat.le_refl _) hx).mono ?_
    rintro e w1 ⟨rfl, c⟩
    have HF := Lib.hid (bup2 HB0.out c)
    clear c
    go_wp2_with fail
    all_goals (go_ret; exact ⟨rfl, HF.out⟩)

end Go.Proofs.Ytpkdmdcmhekgpaa
