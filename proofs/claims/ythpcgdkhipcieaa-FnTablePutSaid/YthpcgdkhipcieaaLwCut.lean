/-
  The walk of the law FnExactCutFile.
-/
import Derived.Test.YthpcgdkhipcieaaTbk
namespace Go.Proofs.Ythpcgdkhipcieaa
open Go.RowKit

theorem tsz_rows {xs : List (List Int)} (h : ∀ l ∈ xs, l.length ≤ 6) : tsz xs ≤ 7 * xs.length := by
  unfold tsz
  have : ∀ ys : List (List Int), (∀ l ∈ ys, l.length ≤ 6) → (ys.map List.length).sum ≤ 6 * ys.length := by
    intro ys
    induction ys with
    | nil => intro _; simp
    | cons a l ih =>
      intro h
      have h1 := h a (by simp)
      have h2 := ih fun x hx => h x (by simp [hx])
      simp only [List.map_cons, List.sum_cons, List.length_cons]
      omega
  have := this xs h
  omega
theorem tcut_tsz (t : List (List Int)) (f p : Int) : tsz (tcut t f p) ≤ 100 := by
  by_cases hg : tabVal t = true ∧ (0 ≤ f ∧ f ≤ 7) ∧ (0 ≤ p ∧ p ≤ 6)
  · obtain ⟨hv, hf, hp⟩ := hg
    obtain ⟨f, rfl⟩ := Int.eq_ofNat_of_zero_le hf.1
    obtain ⟨p, rfl⟩ := Int.eq_ofNat_of_zero_le hp.1
    have h8 := tab_len hv
    have hlt : f < t.length := by omega
    have h6 := tab_row hv hlt
    rw [tcut_in hv hlt (by omega)]
    have := tsz_rows (xs := t.set f (rcut t[f] p)) (fun l hl => by
      rcases List.mem_or_eq_of_mem_set hl with h | rfl
      · have := (tabVal_iff.1 hv).2.1 l h; omega
      · simp [rcut]; omega)
    rw [List.length_set, h8] at this
    omega
  · rw [tcut_out hg]; decide

set_option maxHeartbeats 4000000 in
theorem FnExactCutFile_walk (w : World) (v : Value) (t : List (List Int)) (h : RT1 w 0 w.heap.size v t) (f : Int) (_hf : I64 f) (p : Int) (_hp : I64 p) :
    Calls Try.prog 11 #[v, .int .i64 f, .int .i64 p] w fun e w' => e = .returned (.bool true) ∧ Below w.heap.size w w' := by
  obtain ⟨s, rfl, h⟩ := h
  obtain ⟨a, cap, b, off, rfl, -⟩ := h.open
  obtain ⟨w0, hw0⟩ : ∃ w0 : World, w0 = w.alloc (.cells #[.slice a t.length cap] 24) := ⟨_, rfl⟩
  have HB0 : Hid (Below w.heap.size w w0) := Lib.hid (by rw [hw0]; exact balloc w _)
  have H := Lib.hid (h.below HB0.out)
  have X0 : Hid (w0.heap[w.heap.size]? = some (.cells #[.slice a t.length cap] 24)) := Lib.hid (by rw [hw0]; exact heap_alloc_new w _)
  have z0 : w0.heap.size = w.heap.size + 1 := by rw [hw0]; simp
  have HW := Lib.hid hw0
  have hl6 := tcut_tsz t f p
  generalize hho : tcut t f p = Z at *
  have HH := Lib.hid hho
  have hZ : tsz Z ≤ 1048576 := by omega
  have htz := toff_le Z Z.length
  clear h hw0 hho
  by_cases hx : tsz t ≤ 1048576
  · have htf := toff_le t t.length
    go_enter Try.func11, Try.ntmps11
    go_wp2_with fail
    rw [← HW.out]
    refine (szT_yes _ t _ _ 1048576 _ H.out (Nat.le_refl _) hx).mono ?_
    rintro e w1 ⟨rfl, c⟩
    have hneg : decide ((1048576 : Int) - (tsz t : Int) < 0) = false := by simp; omega
    have B := Lib.hid c
    obtain ⟨hb, -⟩ := one_at (box_keep X0.out B.out)
    clear c HW
    go_wp2_with fail
    refine (toTable_any _ t _ _ _ (H.out.below B.out) hx).mono ?_
    rintro e w2 ⟨v2, rfl, o2, c⟩
    replace B := Lib.hid (bup2 B.out c)
    have z2 := B.out.size
    clear c hb
    go_wp2_with fail
    have c3 := specCut_any _ t f p _ _ _ o2.rt
    rw [HH.out] at c3
    refine c3.mono ?_
    clear c3
    rintro e w3 ⟨v3, rfl, o3, c⟩
    obtain ⟨a3, cap3, b3, off3, rfl, -⟩ := o3.rt.open
    obtain ⟨w3', hw3⟩ : ∃ w3' : World, w3' = w3.alloc (.cells #[.slice a3 Z.length cap3] 27) := ⟨_, rfl⟩
    have c3 : Below w3.heap.size w3 w3' := by rw [hw3]; exact balloc w3 _
    have XE : Hid (w3'.heap[w3.heap.size]? = some (.cells #[.slice a3 Z.length cap3] 27)) := Lib.hid (by rw [hw3]; exact heap_alloc_new w3 _)
    have z23 := c.size
    have z33 : w3'.heap.size = w3.heap.size + 1 := by rw [hw3]; simp
    have E := Lib.hid (o3.below c3)
    replace B := Lib.hid (bup2 B.out (bup2 c c3))
    have HW := Lib.hid hw3
    obtain ⟨hb, -⟩ := one_at (box_keep X0.out B.out)
    rw [hw3] at hb
    clear c c3 o2 o3 hw3
    go_wp2_with fail
    rw [← HW.out]
    refine (toTable_any _ t _ _ _ (H.out.below B.out) hx).mono ?_
    rintro e w4 ⟨v4, rfl, o4, c⟩
    obtain ⟨a4, cap4, b4, off4, rfl, -⟩ := o4.rt.open
    obtain ⟨w5, hw5⟩ : ∃ w5 : World, w5 = w4.alloc (.cells #[.slice a4 t.length cap4] 27) := ⟨_, rfl⟩
    have c5 : Below w4.heap.size w4 w5 := by rw [hw5]; exact balloc w4 _
    have X4 : Hid (w5.heap[w4.heap.size]? = some (.cells #[.slice a4 t.length cap4] 27)) := Lib.hid (by rw [hw5]; exact heap_alloc_new w4 _)
    have z34 := c.size
    have z45 : w5.heap.size = w4.heap.size + 1 := by rw [hw5]; simp
    have G := Lib.hid (o4.below c5)
    replace B := Lib.hid (bup2 B.out (bup2 c c5))
    replace E := Lib.hid (E.out.below (bup2 c c5))
    replace XE := Lib.hid (box_keep XE.out (bup2 c c5))
    replace HW := Lib.hid hw5
    clear c c5 hb o4 hw5
    go_wp2_with fail
    rw [← HW.out]
    have c6 := implCut_any _ t f p _ _ _ G.out.rt
    rw [HH.out] at c6
    refine c6.mono ?_
    clear c6
    rintro e w6 ⟨v6, rfl, o6, c⟩
    obtain ⟨a6, cap6, b6, off6, rfl, -⟩ := o6.rt.open
    obtain ⟨w6', hw6⟩ : ∃ w6' : World, w6' = w6.alloc (.cells #[.slice a6 Z.length cap6] 27) := ⟨_, rfl⟩
    have c6 : Below w6.heap.size w6 w6' := by rw [hw6]; exact balloc w6 _
    have XV : Hid (w6'.heap[w6.heap.size]? = some (.cells #[.slice a6 Z.length cap6] 27)) := Lib.hid (by rw [hw6]; exact heap_alloc_new w6 _)
    have z56 := c.size
    have z66 : w6'.heap.size = w6.heap.size + 1 := by rw [hw6]; simp
    have V := Lib.hid (o6.below c6)
    have cc := bup2 c c6
    replace B := Lib.hid (bup2 B.out cc)
    replace E := Lib.hid (E.out.below cc)
    replace G := Lib.hid (G.out.below cc)
    replace XE := Lib.hid (box_keep XE.out cc)
    replace X4 := Lib.hid (box_keep X4.out cc)
    replace HW := Lib.hid hw6
    obtain ⟨hbE, -⟩ := one_at XE.out
    obtain ⟨hbV, -⟩ := one_at XV.out
    rw [hw6] at hbE hbV
    clear c c6 cc o6 hw6
    go_wp2_with fail
    rw [← HW.out]
    refine (eqTable_any _ _ Z _ _ _ _ _ V.out.rt E.out.rt hZ).mono ?_
    rintro e w7 ⟨rfl, c⟩
    replace B := Lib.hid (bup2 B.out c)
    replace E := Lib.hid (E.out.below c)
    replace G := Lib.hid (G.out.below c)
    replace V := Lib.hid (V.out.below c)
    replace XE := Lib.hid (box_keep XE.out c)
    replace X4 := Lib.hid (box_keep X4.out c)
    replace XV := Lib.hid (box_keep XV.out c)
    clear c hbE hbV
    obtain ⟨hb0, -⟩ := one_at (box_keep X0.out B.out)
    obtain ⟨hb4, -⟩ := one_at X4.out
    have HD := Lib.hid (H.out.below (bup2 B.out (bdrew w7)))
    have GD := Lib.hid (G.out.below (bdrew w7))
    go_wp2_with fail
    go_region_held3 (fun w' => w'.cell? ⟨w.heap.size, 0, none⟩ = some (.slice a t.length cap) ∧ w'.cell? ⟨w4.heap.size, 0, none⟩ = some (.slice a4 t.length cap4))
      (first | exact ⟨hb0, hb4⟩ | exact ⟨cell_later (w := w7.drew) (by assumption) hb0, cell_later (w := w7.drew) (by assumption) hb4⟩ | exact ⟨cell_later (w := w7.drew) (bup2 (b := wa) (by assumption) (by assumption)) hb0, cell_later (w := w7.drew) (bup2 (b := wa) (by assumption) (by assumption)) hb4⟩)
      (first | (go_at_call 17; refine (toTable_any _ t _ _ _ HD.out hx).mono ?_; rintro e wa ⟨va, rfl, oa, ca⟩)
             | (go_at_call 19; refine (eqTable_any _ _ t _ _ _ _ _ (OT.rt (OT.below (w := w7.drew) GD.out (by assumption))) (OT.rt (by assumption)) hx).mono ?_; rintro e wb ⟨rfl, cb⟩))
    have ca' : Below w7.drew.heap.size w7.drew wa := by assumption
    have cb' : Below wa.heap.size wa wb := by assumption
    have c := bup2 (bdrew w7) (bup2 ca' cb')
    replace B := Lib.hid (bup2 B.out c)
    replace E := Lib.hid (E.out.below c)
    replace G := Lib.hid (G.out.below c)
    replace V := Lib.hid (V.out.below c)
    replace XE := Lib.hid (box_keep XE.out c)
    replace X4 := Lib.hid (box_keep X4.out c)
    replace XV := Lib.hid (box_keep XV.out c)
    clear c ca' cb' HD GD hb0 hb4
    obtain ⟨hb4, -⟩ := one_at X4.out
    have hneg2 : decide ((1 : Int) + (toff t t.length : Int) < 0) = false := by simp; omega
    go_wp2_with fail
    refine (markTable_any _ t _ _ 1 _ G.out hx (by omega) (by omega)).mono ?_
    rintro e w8 ⟨rfl, -, c⟩
    replace B := Lib.hid (up_chg B.out c (by omega))
    replace E := Lib.hid (E.out.chg c (by omega))
    replace V := Lib.hid (V.out.chg c (by omega))
    replace XE := Lib.hid (box_chg XE.out c (by omega))
    replace XV := Lib.hid (box_chg XV.out c (by omega))
    obtain ⟨hbE, -⟩ := one_at XE.out
    obtain ⟨hbV, -⟩ := one_at XV.out
    clear c hb4 G X4
    go_wp2_with fail
    refine (eqTable_any _ _ Z _ _ _ _ _ V.out.rt E.out.rt hZ).mono ?_
    rintro e w9 ⟨rfl, c⟩
    replace B := Lib.hid (bup2 B.out c)
    replace E := Lib.hid (E.out.below c)
    replace V := Lib.hid (V.out.below c)
    replace XE := Lib.hid (box_keep XE.out c)
    replace XV := Lib.hid (box_keep XV.out c)
    clear c hbE hbV
    obtain ⟨hbV, -⟩ := one_at XV.out
    have hneg3 : decide ((1 : Int) + (toff Z Z.length : Int) < 0) = false := by simp; omega
    have hnn : ((1 : Int) + (toff Z Z.length : Int) != (1 : Int) + (toff Z Z.length : Int)) = false := by simp
    go_wp2_with fail
    refine (markTable_any _ Z _ _ 1 _ V.out hZ (by omega) (by omega)).mono ?_
    rintro e w10 ⟨rfl, o10, c⟩
    replace V := Lib.hid o10
    replace B := Lib.hid (up_chg B.out c (by omega))
    replace E := Lib.hid (E.out.chg c (by omega))
    replace XE := Lib.hid (box_chg XE.out c (by omega))
    replace XV := Lib.hid (box_chg XV.out c (by omega))
    clear c o10 hbV
    obtain ⟨hbV, -⟩ := one_at XV.out
    go_wp2_with fail
    refine (heldTable_any _ Z _ _ 1 _ V.out.rt hZ (by omega) (by omega)).mono ?_
    rintro e w11 ⟨rfl, c⟩
    replace B := Lib.hid (bup2 B.out c)
    replace E := Lib.hid (E.out.below c)
    replace V := Lib.hid (V.out.below c)
    replace XE := Lib.hid (box_keep XE.out c)
    replace XV := Lib.hid (box_keep XV.out c)
    clear c hbV
    obtain ⟨hb0, -⟩ := one_at (box_keep X0.out B.out)
    go_wp2_with fail
    refine (toTable_any _ t _ _ _ (H.out.below B.out) hx).mono ?_
    rintro e w12 ⟨v12, rfl, o12, c⟩
    replace B := Lib.hid (bup2 B.out c)
    replace E := Lib.hid (E.out.below c)
    replace V := Lib.hid (V.out.below c)
    replace XE := Lib.hid (box_keep XE.out c)
    replace XV := Lib.hid (box_keep XV.out c)
    clear c hb0
    go_wp2_with fail
    have c13 := implCut_any _ t f p _ _ _ o12.rt
    rw [HH.out] at c13
    refine c13.mono ?_
    clear c13
    rintro e w13 ⟨v13, rfl, o13, c⟩
    obtain ⟨a13, cap13, b13, off13, rfl, -⟩ := o13.rt.open
    obtain ⟨w13', hw13⟩ : ∃ w13' : World, w13' = w13.alloc (.cells #[.slice a13 Z.length cap13] 27) := ⟨_, rfl⟩
    have c13 : Below w13.heap.size w13 w13' := by rw [hw13]; exact balloc w13 _
    have XF : Hid (w13'.heap[w13.heap.size]? = some (.cells #[.slice a13 Z.length cap13] 27)) := Lib.hid (by rw [hw13]; exact heap_alloc_new w13 _)
    have F := Lib.hid (o13.below c13)
    have cc := bup2 c c13
    replace B := Lib.hid (bup2 B.out cc)
    replace E := Lib.hid (E.out.below cc)
    replace V := Lib.hid (V.out.below cc)
    replace XE := Lib.hid (box_keep XE.out cc)
    replace XV := Lib.hid (box_keep XV.out cc)
    replace HW := Lib.hid hw13
    obtain ⟨hbE, -⟩ := one_at XE.out
    obtain ⟨hbF, -⟩ := one_at XF.out
    rw [hw13] at hbE hbF
    clear c c13 cc o13 o12 hw13
    go_wp2_with fail
    rw [← HW.out]
    refine (eqTable_any _ _ Z _ _ _ _ _ F.out.rt E.out.rt hZ).mono ?_
    rintro e w14 ⟨rfl, c⟩
    replace B := Lib.hid (bup2 B.out c)
    replace V := Lib.hid (V.out.below c)
    replace XV := Lib.hid (box_keep XV.out c)
    clear c hbE hbF
    obtain ⟨hbV, -⟩ := one_at XV.out
    go_wp2_with fail
    refine (heldTable_any _ Z _ _ 1 _ V.out.rt hZ (by omega) (by omega)).mono ?_
    rintro e w15 ⟨rfl, c⟩
    have HF := Lib.hid (bup2 HB0.out (bup2 B.out c))
    clear c
    go_wp2_with fail
    all_goals (go_ret; exact ⟨rfl, HF.out⟩)
  · go_enter Try.func11, Try.ntmps11
    go_wp2_with fail
    rw [← HW.out]
    refine (szT_no _ t _ _ 1048576 _ H.out (Nat.le_refl _) hx).mono ?_
    rintro e w1 ⟨rfl, c⟩
    have HF := Lib.hid (bup2 HB0.out c)
    clear c
    go_wp2_with fail
    all_goals (go_ret; exact ⟨rfl, HF.out⟩)

end Go.Proofs.Ythpcgdkhipcieaa
