/-
  The walk of the law FnExactOldPages.
-/
import Derived.Test.YtfcfifjfmflicaaOlw
import Derived.Test.YtfcfifjfmflicaaDvi
import Derived.Test.YtfcfifjfmflicaaTbu
import Derived.Test.YtfcfifjfmflicaaUse
namespace Go.Proofs.Ytfcfifjfmflicaa
open Go.RowKit

theorem szJ_yes (v : Value) (xs : List (List Int)) (lo hi : Nat) (l : Int) (w : World) (h : RT w lo hi v xs) (h0 : 0 ≤ l) (hl : l ≤ 1048576) (hx : (tsz xs : Int) ≤ l) :
    Calls Try.prog 6 #[.agg #[v], .int .i64 l] w fun e w' => e = .returned (.int .i64 (l - tsz xs)) ∧ Below w.heap.size w w' := by
  obtain ⟨n, rfl⟩ : ∃ n : Nat, l = n := ⟨l.toNat, by omega⟩
  exact szT_yes v xs lo hi n w h (by omega) (by omega)
theorem szJ_no (v : Value) (xs : List (List Int)) (lo hi : Nat) (l : Int) (w : World) (h : RT w lo hi v xs) (h0 : 0 ≤ l) (hl : l ≤ 1048576) (hx : ¬ (tsz xs : Int) ≤ l) :
    Calls Try.prog 6 #[.agg #[v], .int .i64 l] w fun e w' => e = .returned (.int .i64 (-1)) ∧ Below w.heap.size w w' := by
  obtain ⟨n, rfl⟩ : ∃ n : Nat, l = n := ⟨l.toNat, by omega⟩
  exact szT_no v xs lo hi n w h (by omega) (by omega)

/-- A table by value, wherever; a device, wherever. -/
def TVd (w : World) (v : Value) (xs : List (List Int)) : Prop := ∃ r lo hi, v = .agg #[r] ∧ RT w lo hi r xs
theorem TVd.below {w w' : World} {v : Value} {xs : List (List Int)} (h : TVd w v xs) (hB : Below w.heap.size w w') : TVd w' v xs := by
  obtain ⟨r, lo, hi, rfl, h⟩ := h
  exact ⟨r, lo, hi, rfl, h.below hB⟩
def DVd (w : World) (v : Value) (d : List Bk) : Prop := ∃ lo hi, RD w lo hi v d
theorem DVd.below {w w' : World} {v : Value} {d : List Bk} (h : DVd w v d) (hB : Below w.heap.size w w') : DVd w' v d := by
  obtain ⟨lo, hi, h⟩ := h
  exact ⟨lo, hi, h.below hB⟩
def OlPhi (va vb : Value) (d : List Bk) (t : List (List Int)) (i : Nat) (v : Value) (w : World) : Prop :=
  match i with
  | 0 => v = va
  | 1 => DVd w v d
  | 2 => v = .agg #[vb]
  | 3 => TVd w v t
  | 4 => v = .int .i64 (old d t)
  | 5 => v = .int .i64 (old d t)
  | _ => True
theorem ol_stable {va vb : Value} {d : List Bk} {t : List (List Int)} {i : Nat} {v : Value} {w w' : World} (hB : Below w.heap.size w w') (h : OlPhi va vb d t i v w) : OlPhi va vb d t i v w' := by
  unfold OlPhi at *
  split at h
  all_goals first
    | exact h
    | exact h.below hB

set_option maxHeartbeats 4000000 in
set_option maxRecDepth 4000 in
theorem FnExactOldPages_walk (w : World) (v : Value) (d : List Bk) (h : RD w 0 w.heap.size v d) (vb : Value) (t : List (List Int)) (h2 : RT1 w 0 w.heap.size vb t) :
    Calls Try.prog 3 #[v, vb] w fun e w' => e = .returned (.bool true) ∧ Below w.heap.size w w' := by
  obtain ⟨s2, rfl, h2⟩ := h2
  obtain ⟨a, cap, b, off, rfl, -⟩ := h.open
  obtain ⟨ab, kb, bb, jb, rfl, -⟩ := h2.open
  obtain ⟨w0, hw0⟩ : ∃ w0 : World, w0 = w.alloc (.cells #[.slice ab t.length kb] 25) := ⟨_, rfl⟩
  have HB0 : Hid (Below w.heap.size w w0) := Lib.hid (by rw [hw0]; exact balloc w _)
  have HD := Lib.hid (h.below HB0.out)
  have HT := Lib.hid (h2.below HB0.out)
  have X0 : Hid (w0.heap[w.heap.size]? = some (.cells #[.slice ab t.length kb] 25)) := Lib.hid (by rw [hw0]; exact heap_alloc_new w _)
  have HW := Lib.hid hw0
  have hsz := szBlockS_any (.slice a d.length cap) d 0 w.heap.size 1048576 w0 HD.out (Nat.le_refl _)
  clear h h2 hw0
  by_cases hx : dsz d ≤ 1048576
  · rw [if_pos hx] at hsz
    have HSZ := Lib.hid hsz
    clear hsz
    go_enter Try.func3, Try.ntmps3
    go_wp2_with fail
    rw [← HW.out]
    refine HSZ.out.mono ?_
    rintro e w1 ⟨rfl, c⟩
    have hneg : decide ((1048576 : Int) - (dsz d : Int) < 0) = false := by simp; omega
    have B := Lib.hid c
    replace X0 := Lib.hid (box_keep X0.out c)
    obtain ⟨hb, -⟩ := one_at X0.out
    clear c HSZ HW
    by_cases hy : tsz t ≤ 1048576 - dsz d
    · go_wp2_with fail
      refine (szJ_yes _ t _ _ (1048576 - dsz d) _ (HT.out.below B.out) (by omega) (by omega) (by omega)).mono ?_
      rintro e w2 ⟨rfl, c⟩
      have hneg2 : decide ((1048576 : Int) - (dsz d : Int) - (tsz t : Int) < 0) = false := by simp; omega
      replace B := Lib.hid (bup2 B.out c)
      replace X0 := Lib.hid (box_keep X0.out c)
      clear c hb
      go_wp2_with fail
      refine wp_region_use (fun _ w' => Below w2.heap.size w2 w') (fun _ w w' => Below w.heap.size w w') (OlPhi (.slice a d.length cap) (.slice ab t.length kb) d t) (fun _ => none) (by kernel_rfl) (by kernel_rfl) ?hS ?h0 ?hop ?hend
      case hS => exact fun i j v w w' _ _ hS h => ol_stable hS h
      case h0 => exact (Below.refl _ _).drew
      case hop =>
        intro i o hi V n w' hn hJ hd
        have hi' : i = 0 ∨ i = 1 ∨ i = 2 ∨ i = 3 ∨ i = 4 ∨ i = 5 := by
          have := (List.getElem?_eq_some_iff.1 hi).1
          simp at this
          omega
        have hz := hJ.size
        have HJ := Lib.hid (bup2 B.out hJ)
        obtain ⟨hb0, -⟩ := one_at (box_keep X0.out hJ)
        rcases hi' with rfl | rfl | rfl | rfl | rfl | rfl
        all_goals
          simp at hi
          subst hi
          simp [Region.binds, OlPhi] at hd
        · simp [Frees, frameOf, go_sem]
          exact ⟨rfl, Below.refl _ _, hJ⟩
        · simp [Frees, frameOf, go_sem, hd]
          refine (toBlockS_any _ d _ _ _ (HD.out.below HJ.out) hx).mono ?_
          rintro e w'' ⟨v', rfl, o, c⟩
          exact ⟨_, rfl, ⟨_, _, o.rd⟩, c, hJ.trans (c.mono hz)⟩
        · simp [Frees, frameOf, go_sem, hb0]
          exact ⟨rfl, Below.refl _ _, hJ⟩
        · simp [Frees, frameOf, go_sem, hd]
          refine (toTable_any _ t _ _ _ (HT.out.below HJ.out) (by omega)).mono ?_
          rintro e w'' ⟨v', rfl, o, c⟩
          exact ⟨_, rfl, ⟨v', _, _, rfl, o.rt⟩, c, hJ.trans (c.mono hz)⟩
        · obtain ⟨⟨lo1, hi1, o1⟩, ⟨r2, lo2, hi2, e2, o2⟩⟩ := hd
          simp [Frees, frameOf, go_sem, e2]
          refine (specOld_any _ r2 d t _ _ _ _ _ o1 o2).mono ?_
          rintro e w'' ⟨rfl, c⟩
          exact ⟨_, rfl, rfl, c, hJ.trans (c.mono hz)⟩
        · simp [Frees, frameOf, go_sem, hd]
          exact ⟨rfl, Below.refl _ _, hJ⟩
      case hend =>
        intro V n w3 hn hJ hφ
        have h5 : V 5 = .int .i64 (old d t) := hφ 5 (by decide) rfl
        replace B := Lib.hid (bup2 B.out hJ)
        replace X0 := Lib.hid (box_keep X0.out hJ)
        clear hφ hJ
        simp [frameOf, Act.put, h5]
        clear h5
        go_wp2_with fail
        refine (toBlockS_any _ d _ _ _ (HD.out.below B.out) hx).mono ?_
        rintro e w4 ⟨v4, rfl, o4, c⟩
        have O4 := Lib.hid o4
        replace B := Lib.hid (bup2 B.out c)
        replace X0 := Lib.hid (box_keep X0.out c)
        obtain ⟨hb0, -⟩ := one_at X0.out
        clear c o4
        go_wp2_with fail
        refine (toTable_any _ t _ _ _ (HT.out.below B.out) (by omega)).mono ?_
        rintro e w5 ⟨v5, rfl, o5, c⟩
        obtain ⟨a5, cap5, b5, off5, rfl, -⟩ := o5.rt.open
        have c' := bup2 c (balloc w5 (.cells #[.slice a5 t.length cap5] 31))
        replace O4 := Lib.hid (O4.out.below c')
        have O5 := Lib.hid (o5.below (balloc w5 (.cells #[.slice a5 t.length cap5] 31)))
        replace B := Lib.hid (bup2 B.out c')
        replace X0 := Lib.hid (box_keep X0.out c')
        have X5 := Lib.hid (heap_alloc_new w5 (.cells #[.slice a5 t.length cap5] 31))
        clear c c' hb0 o5
        go_wp2_with fail
        refine (implOld_any _ _ d t _ _ _ _ _ O4.out.rd O5.out.rt).mono ?_
        rintro e w6 ⟨rfl, c⟩
        replace O4 := Lib.hid (O4.out.below c)
        replace O5 := Lib.hid (O5.out.below c)
        replace B := Lib.hid (bup2 B.out c)
        replace X0 := Lib.hid (box_keep X0.out c)
        replace X5 := Lib.hid (box_keep X5.out c)
        have hnn : (old d t != old d t) = false := by simp
        clear c
        go_wp2_with fail
        refine (toBlockS_any _ d _ _ _ (HD.out.below B.out) hx).mono ?_
        rintro e w7 ⟨v7, rfl, o7, c⟩
        replace O4 := Lib.hid (O4.out.below c)
        replace O5 := Lib.hid (O5.out.below c)
        replace B := Lib.hid (bup2 B.out c)
        replace X0 := Lib.hid (box_keep X0.out c)
        replace X5 := Lib.hid (box_keep X5.out c)
        have O7 := Lib.hid o7
        clear c o7
        go_wp2_with fail
        refine (eqBlockS_any _ _ d _ _ _ _ _ O4.out.rd O7.out.rd hx).mono ?_
        rintro e w8 ⟨rfl, c⟩
        replace O5 := Lib.hid (O5.out.below c)
        replace B := Lib.hid (bup2 B.out c)
        replace X0 := Lib.hid (box_keep X0.out c)
        replace X5 := Lib.hid (box_keep X5.out c)
        obtain ⟨hb0, -⟩ := one_at X0.out
        obtain ⟨hb5, -⟩ := one_at X5.out
        clear c
        have HDD := Lib.hid (HT.out.below (bup2 B.out (bdrew w8)))
        have OD := Lib.hid (O5.out.below (bdrew w8))
        go_wp2_with fail
        go_region_held3 (fun w' => w'.cell? ⟨w.heap.size, 0, none⟩ = some (.slice ab t.length kb) ∧ w'.cell? ⟨w5.heap.size, 0, none⟩ = some (.slice a5 t.length cap5))
          (first | exact ⟨hb0, hb5⟩ | exact ⟨cell_later (w := w8.drew) (by assumption) hb0, cell_later (w := w8.drew) (by assumption) hb5⟩ | exact ⟨cell_later (w := w8.drew) (bup2 (b := wa) (by assumption) (by assumption)) hb0, cell_later (w := w8.drew) (bup2 (b := wa) (by assumption) (by assumption)) hb5⟩)
          (first | (go_at_call 9; refine (toTable_any _ t _ _ _ HDD.out (by omega)).mono ?_; rintro e wa ⟨va, rfl, oa, ca⟩)
                 | (go_at_call 12; refine (eqTable_any _ _ t _ _ _ _ _ (OT.rt (OT.below (w := w8.drew) OD.out (by assumption))) (OT.rt (by assumption)) (by omega)).mono ?_; rintro e wb ⟨rfl, cb⟩))
        have ca' : Below w8.drew.heap.size w8.drew wa := by assumption
        have cb' : Below wa.heap.size wa wb := by assumption
        have HF := Lib.hid (bup2 HB0.out (bup2 B.out (bup2 (bdrew w8) (bup2 ca' cb'))))
        clear ca' cb' hb0 hb5 HDD OD
        go_wp2_with fail
        all_goals (go_ret; exact ⟨rfl, HF.out⟩)
    · go_wp2_with fail
      refine (szJ_no _ t _ _ (1048576 - dsz d) _ (HT.out.below B.out) (by omega) (by omega) (by omega)).mono ?_
      rintro e w2 ⟨rfl, c⟩
      have HF := Lib.hid (bup2 HB0.out (bup2 B.out c))
      clear c
      go_wp2_with fail
      all_goals (go_ret; exact ⟨rfl, HF.out⟩)
  · rw [if_neg hx] at hsz
    have HSZ := Lib.hid hsz
    clear hsz
    go_enter Try.func3, Try.ntmps3
    go_wp2_with fail
    rw [← HW.out]
    refine HSZ.out.mono ?_
    rintro e w1 ⟨rfl, c⟩
    have HF := Lib.hid (bup2 HB0.out c)
    clear c HSZ HW
    go_wp2_with fail
    all_goals (go_ret; exact ⟨rfl, HF.out⟩)

end Go.Proofs.Ytfcfifjfmflicaa
