/-
  The walk of the law FnExactTableOf.
-/
import Derived.Test.YtpfekeflkmafcaaTos
import Derived.Test.YtpfekeflkmafcaaDvi
import Derived.Test.YtpfekeflkmafcaaDvm
import Derived.Test.YtpfekeflkmafcaaTbm
import Derived.Test.YtpfekeflkmafcaaTbw
namespace Go.Proofs.Ytpfekeflkmafcaa
open Go.RowKit

theorem tof_tsz (d : List Bk) : tsz (tof d) ≤ 100 := by
  cases hv : dvOk d
  · rw [tof_bad hv]; decide
  · have h := tof_val hv
    have h8 := tab_len h
    have h6 := (tabVal_iff.1 h).2.1
    have hl := flat_len h6
    rw [List.length_flatten] at hl
    unfold tsz
    omega

set_option maxHeartbeats 8000000 in
set_option maxRecDepth 4000 in
theorem FnExactTableOf_walk (w : World) (v : Value) (d : List Bk) (h : RD w 0 w.heap.size v d) :
    Calls Try.prog 3 #[v] w fun e w' => e = .returned (.bool true) ∧ Below w.heap.size w w' := by
  obtain ⟨a, cap, b, off, rfl, -⟩ := h.open
  have HD := Lib.hid h
  have hsz := szBlockS_any (.slice a d.length cap) d 0 w.heap.size 1048576 w HD.out (Nat.le_refl _)
  have hZ1 := tof_tsz d
  have CS := Lib.hid (fun vx lo hi wx hx => specTof_any vx d lo hi wx hx)
  have CI := Lib.hid (fun vx lo hi wx hx => implTof_any vx d lo hi wx hx)
  generalize tof d = Z at CS CI hZ1
  have hZ : tsz Z ≤ 1048576 := by omega
  have htz := toff_le Z Z.length
  clear h
  by_cases hx : dsz d ≤ 1048576
  · rw [if_pos hx] at hsz
    have HSZ := Lib.hid hsz
    clear hsz
    go_enter Try.func3, Try.ntmps3
    go_wp2_with fail
    refine HSZ.out.mono ?_
    rintro e w1 ⟨rfl, c⟩
    have hneg : decide ((1048576 : Int) - (dsz d : Int) < 0) = false := by simp; omega
    have B := Lib.hid c
    clear c HSZ
    go_wp2_with fail
    refine (toBlockS_any _ d _ _ _ (HD.out.below B.out) hx).mono ?_
    rintro e w2 ⟨v2, rfl, o2, c⟩
    replace B := Lib.hid (bup2 B.out c)
    have z2 := B.out.size
    clear c
    go_wp2_with fail
    refine (CS.out _ _ _ _ o2.rd).mono ?_
    rintro e w3 ⟨v3, rfl, o3, c⟩
    obtain ⟨a3, cap3, b3, off3, rfl, -⟩ := o3.rt.open
    obtain ⟨w3', hw3⟩ : ∃ w3' : World, w3' = w3.alloc (.cells #[.slice a3 Z.length cap3] 26) := ⟨_, rfl⟩
    have c3 : Below w3.heap.size w3 w3' := by rw [hw3]; exact balloc w3 _
    have XE : Hid (w3'.heap[w3.heap.size]? = some (.cells #[.slice a3 Z.length cap3] 26)) := Lib.hid (by rw [hw3]; exact heap_alloc_new w3 _)
    have z23 := c.size
    have z33 : w3'.heap.size = w3.heap.size + 1 := by rw [hw3]; simp
    have E := Lib.hid (o3.below c3)
    replace B := Lib.hid (bup2 B.out (bup2 c c3))
    have HW := Lib.hid hw3
    clear c c3 o2 o3 hw3
    go_wp2_with fail
    rw [← HW.out]
    refine (toBlockS_any _ d _ _ _ (HD.out.below B.out) hx).mono ?_
    rintro e w4 ⟨v4, rfl, o4, c⟩
    have z34 := c.size
    have G := Lib.hid o4
    replace B := Lib.hid (bup2 B.out c)
    replace E := Lib.hid (E.out.below c)
    replace XE := Lib.hid (box_keep XE.out c)
    clear c o4
    go_wp2_with fail
    refine (CI.out _ _ _ _ G.out.rd).mono ?_
    rintro e w6 ⟨v6, rfl, o6, c⟩
    obtain ⟨a6, cap6, b6, off6, rfl, -⟩ := o6.rt.open
    obtain ⟨w6', hw6⟩ : ∃ w6' : World, w6' = w6.alloc (.cells #[.slice a6 Z.length cap6] 26) := ⟨_, rfl⟩
    have c6 : Below w6.heap.size w6 w6' := by rw [hw6]; exact balloc w6 _
    have XV : Hid (w6'.heap[w6.heap.size]? = some (.cells #[.slice a6 Z.length cap6] 26)) := Lib.hid (by rw [hw6]; exact heap_alloc_new w6 _)
    have z46 := c.size
    have z66 : w6'.heap.size = w6.heap.size + 1 := by rw [hw6]; simp
    have V := Lib.hid (o6.below c6)
    have cc := bup2 c c6
    replace B := Lib.hid (bup2 B.out cc)
    replace E := Lib.hid (E.out.below cc)
    replace G := Lib.hid (G.out.below cc)
    replace XE := Lib.hid (box_keep XE.out cc)
    replace HW := Lib.hid hw6
    obtain ⟨hbE, -⟩ := one_at XE.out
    obtain ⟨hbV, -⟩ := one_at XV.out
    rw [hw6] at hbE hbV
    clear c c6 cc o6 hw6
    go_wp2_with fail
    rw [← HW.out]
    refine (eqTable_any _ _ Z _ _ _ _ _ V.out.rt E.out.rt hZ).mono ?_
    rintro e w7 ⟨rfl, c⟩
    replace B := Lib.hid (bup2 B.out c)
    replace E := Lib.hid (E.out.below c)
    replace G := Lib.hid (G.out.below c)
    replace V := Lib.hid (V.out.below c)
    replace XE := Lib.hid (box_keep XE.out c)
    replace XV := Lib.hid (box_keep XV.out c)
    clear c hbE hbV
    go_wp2_with fail
    refine (toBlockS_any _ d _ _ _ (HD.out.below B.out) hx).mono ?_
    rintro e w8 ⟨v8, rfl, o8, c⟩
    have O8 := Lib.hid o8
    replace B := Lib.hid (bup2 B.out c)
    replace E := Lib.hid (E.out.below c)
    replace G := Lib.hid (G.out.below c)
    replace V := Lib.hid (V.out.below c)
    replace XE := Lib.hid (box_keep XE.out c)
    replace XV := Lib.hid (box_keep XV.out c)
    clear c o8
    go_wp2_with fail
    refine (eqBlockS_any _ _ d _ _ _ _ _ G.out.rd O8.out.rd hx).mono ?_
    rintro e w9 ⟨rfl, c⟩
    replace B := Lib.hid (bup2 B.out c)
    replace E := Lib.hid (E.out.below c)
    replace G := Lib.hid (G.out.below c)
    replace V := Lib.hid (V.out.below c)
    replace XE := Lib.hid (box_keep XE.out c)
    replace XV := Lib.hid (box_keep XV.out c)
    clear c O8
    go_wp2_with fail
    refine (markBlockS_any _ d _ _ 1 _ G.out hx (by omega)).mono ?_
    rintro e w10 ⟨⟨k', rfl, k1, k2⟩, -, c⟩
    replace B := Lib.hid (up_chg B.out c (by omega))
    replace E := Lib.hid (E.out.chg c (by omega))
    replace V := Lib.hid (V.out.chg c (by omega))
    replace XE := Lib.hid (box_chg XE.out c (by omega))
    replace XV := Lib.hid (box_chg XV.out c (by omega))
    obtain ⟨hbE, -⟩ := one_at XE.out
    obtain ⟨hbV, -⟩ := one_at XV.out
    have hneg2 : decide ((k' : Int) < 0) = false := by simp
    clear c G
    go_wp2_with fail
    refine (eqTable_any _ _ Z _ _ _ _ _ V.out.rt E.out.rt hZ).mono ?_
    rintro e w11 ⟨rfl, c⟩
    replace B := Lib.hid (bup2 B.out c)
    replace E := Lib.hid (E.out.below c)
    replace V := Lib.hid (V.out.below c)
    replace XE := Lib.hid (box_keep XE.out c)
    replace XV := Lib.hid (box_keep XV.out c)
    clear c hbE hbV
    obtain ⟨hbV, -⟩ := one_at XV.out
    have hneg3 : decide ((1 : Int) + (toff Z Z.length : Int) < 0) = false := by simp; omega
    have hnn : ((1 : Int) + (toff Z Z.length : Int) != (1 : Int) + (toff Z Z.length : Int)) = false := by simp
    go_wp2_with fail
    refine (markTable_any _ Z _ _ 1 _ V.out hZ (by omega) (by omega)).mono ?_
    rintro e w12 ⟨rfl, o12, c⟩
    replace V := Lib.hid o12
    replace B := Lib.hid (up_chg B.out c (by omega))
    replace E := Lib.hid (E.out.chg c (by omega))
    replace XE := Lib.hid (box_chg XE.out c (by omega))
    replace XV := Lib.hid (box_chg XV.out c (by omega))
    clear c o12 hbV
    obtain ⟨hbV, -⟩ := one_at XV.out
    go_wp2_with fail
    refine (heldTable_any _ Z _ _ 1 _ V.out.rt hZ (by omega) (by omega)).mono ?_
    rintro e w13 ⟨rfl, c⟩
    replace B := Lib.hid (bup2 B.out c)
    replace E := Lib.hid (E.out.below c)
    replace V := Lib.hid (V.out.below c)
    replace XE := Lib.hid (box_keep XE.out c)
    replace XV := Lib.hid (box_keep XV.out c)
    clear c hbV
    go_wp2_with fail
    refine (toBlockS_any _ d _ _ _ (HD.out.below B.out) hx).mono ?_
    rintro e w14 ⟨v14, rfl, o14, c⟩
    replace B := Lib.hid (bup2 B.out c)
    replace E := Lib.hid (E.out.below c)
    replace V := Lib.hid (V.out.below c)
    replace XE := Lib.hid (box_keep XE.out c)
    replace XV := Lib.hid (box_keep XV.out c)
    clear c
    go_wp2_with fail
    refine (CI.out _ _ _ _ o14.rd).mono ?_
    rintro e w15 ⟨v15, rfl, o15, c⟩
    obtain ⟨a15, cap15, b15, off15, rfl, -⟩ := o15.rt.open
    obtain ⟨w15', hw15⟩ : ∃ w15' : World, w15' = w15.alloc (.cells #[.slice a15 Z.length cap15] 26) := ⟨_, rfl⟩
    have c15 : Below w15.heap.size w15 w15' := by rw [hw15]; exact balloc w15 _
    have XF : Hid (w15'.heap[w15.heap.size]? = some (.cells #[.slice a15 Z.length cap15] 26)) := Lib.hid (by rw [hw15]; exact heap_alloc_new w15 _)
    have F := Lib.hid (o15.below c15)
    have cc := bup2 c c15
    replace B := Lib.hid (bup2 B.out cc)
    replace E := Lib.hid (E.out.below cc)
    replace V := Lib.hid (V.out.below cc)
    replace XE := Lib.hid (box_keep XE.out cc)
    replace XV := Lib.hid (box_keep XV.out cc)
    replace HW := Lib.hid hw15
    obtain ⟨hbE, -⟩ := one_at XE.out
    obtain ⟨hbF, -⟩ := one_at XF.out
    rw [hw15] at hbE hbF
    clear c c15 cc o15 o14 hw15
    go_wp2_with fail
    rw [← HW.out]
    refine (eqTable_any _ _ Z _ _ _ _ _ F.out.rt E.out.rt hZ).mono ?_
    rintro e w16 ⟨rfl, c⟩
    replace B := Lib.hid (bup2 B.out c)
    replace V := Lib.hid (V.out.below c)
    replace XV := Lib.hid (box_keep XV.out c)
    clear c hbE hbF
    obtain ⟨hbV, -⟩ := one_at XV.out
    go_wp2_with fail
    refine (heldTable_any _ Z _ _ 1 _ V.out.rt hZ (by omega) (by omega)).mono ?_
    rintro e w17 ⟨rfl, c⟩
    have HF := Lib.hid (bup2 B.out c)
    clear c
    go_wp2_with fail
    all_goals (go_ret; exact ⟨rfl, HF.out⟩)
  · rw [if_neg hx] at hsz
    have HSZ := Lib.hid hsz
    clear hsz
    go_enter Try.func3, Try.ntmps3
    go_wp2_with fail
    refine HSZ.out.mono ?_
    rintro e w1 ⟨rfl, c⟩
    have HF := Lib.hid c
    clear c HSZ
    go_wp2_with fail
    all_goals (go_ret; exact ⟨rfl, HF.out⟩)

end Go.Proofs.Ytpfekeflkmafcaa
