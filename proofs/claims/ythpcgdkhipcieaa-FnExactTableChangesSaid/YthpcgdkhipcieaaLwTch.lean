/-
  The walk of the law FnExactTableChanges.
-/
import Derived.Test.YthpcgdkhipcieaaTbc
import Derived.Test.YthpcgdkhipcieaaLwFsz
import Derived.Test.YthpcgdkhipcieaaUse
namespace Go.Proofs.Ythpcgdkhipcieaa
open Go.RowKit

theorem szI_yes (v : Value) (xs : List (List Int)) (lo hi : Nat) (l : Int) (w : World) (h : RT w lo hi v xs) (h0 : 0 ≤ l) (hl : l ≤ 1048576) (hx : (tsz xs : Int) ≤ l) :
    Calls Try.prog 15 #[.agg #[v], .int .i64 l] w fun e w' => e = .returned (.int .i64 (l - tsz xs)) ∧ Below w.heap.size w w' := by
  obtain ⟨n, rfl⟩ : ∃ n : Nat, l = n := ⟨l.toNat, by omega⟩
  exact szT_yes v xs lo hi n w h (by omega) (by omega)
theorem szI_no (v : Value) (xs : List (List Int)) (lo hi : Nat) (l : Int) (w : World) (h : RT w lo hi v xs) (h0 : 0 ≤ l) (hl : l ≤ 1048576) (hx : ¬ (tsz xs : Int) ≤ l) :
    Calls Try.prog 15 #[.agg #[v], .int .i64 l] w fun e w' => e = .returned (.int .i64 (-1)) ∧ Below w.heap.size w w' := by
  obtain ⟨n, rfl⟩ : ∃ n : Nat, l = n := ⟨l.toNat, by omega⟩
  exact szT_no v xs lo hi n w h (by omega) (by omega)

/-- A table by value, wherever. -/
def TV (w : World) (v : Value) (xs : List (List Int)) : Prop := ∃ r lo hi, v = .agg #[r] ∧ RT w lo hi r xs
theorem TV.below {w w' : World} {v : Value} {xs : List (List Int)} (h : TV w v xs) (hB : Below w.heap.size w w') : TV w' v xs := by
  obtain ⟨r, lo, hi, rfl, h⟩ := h
  exact ⟨r, lo, hi, rfl, h.below hB⟩
def TcPhi (va vb : Value) (a b : List (List Int)) (i : Nat) (v : Value) (w : World) : Prop :=
  match i with
  | 0 => v = .agg #[va]
  | 1 => TV w v a
  | 2 => v = .agg #[vb]
  | 3 => TV w v b
  | 4 => v = .int .i64 (tchg a b)
  | 5 => v = .int .i64 (tchg a b)
  | _ => True
theorem tc_stable {va vb : Value} {a b : List (List Int)} {i : Nat} {v : Value} {w w' : World} (hB : Below w.heap.size w w') (h : TcPhi va vb a b i v w) : TcPhi va vb a b i v w' := by
  unfold TcPhi at *
  split at h
  all_goals first
    | exact h
    | exact h.below hB

set_option maxHeartbeats 2000000 in
theorem FnExactTableChanges_walk (w : World) (va : Value) (a : List (List Int)) (h : RT1 w 0 w.heap.size va a) (vb : Value) (b : List (List Int)) (h2 : RT1 w 0 w.heap.size vb b) :
    Calls Try.prog 5 #[va, vb] w fun e w' => e = .returned (.bool true) ∧ Below w.heap.size w w' := by
  obtain ⟨s, rfl, h⟩ := h
  obtain ⟨s2, rfl, h2⟩ := h2
  obtain ⟨aa, ka, ba, ja, rfl, -⟩ := h.open
  obtain ⟨ab, kb, bb, jb, rfl, -⟩ := h2.open
  have HB0 := Lib.hid (two_below w (.cells #[.slice aa a.length ka] 24) (.cells #[.slice ab b.length kb] 24))
  have HA := Lib.hid (h.below HB0.out)
  have HB := Lib.hid (h2.below HB0.out)
  obtain ⟨x0, x1⟩ := two_new (w := w) (.cells #[.slice aa a.length ka] 24) (.cells #[.slice ab b.length kb] 24) (Below.refl _ _)
  have X0 := Lib.hid x0
  have X1 := Lib.hid x1
  clear h h2 x0 x1
  by_cases hx : tsz a ≤ 1048576
  · go_enter Try.func5, Try.ntmps5
    go_wp2_with fail
    refine (szT_yes _ a _ _ 1048576 _ HA.out (Nat.le_refl _) hx).mono ?_
    rintro e w1 ⟨rfl, c⟩
    have hneg : decide ((1048576 : Int) - (tsz a : Int) < 0) = false := by simp; omega
    have B := Lib.hid c
    replace X0 := Lib.hid (box_keep X0.out c)
    replace X1 := Lib.hid (box_keep X1.out c)
    obtain ⟨hb, -⟩ := one_at X1.out
    clear c
    by_cases hy : tsz b ≤ 1048576 - tsz a
    · go_wp2_with fail
      refine (szI_yes _ b _ _ (1048576 - tsz a) _ (HB.out.below B.out) (by omega) (by omega) (by omega)).mono ?_
      rintro e w2 ⟨rfl, c⟩
      have hneg2 : decide ((1048576 : Int) - (tsz a : Int) - (tsz b : Int) < 0) = false := by simp; omega
      replace B := Lib.hid (bup2 B.out c)
      replace X0 := Lib.hid (box_keep X0.out c)
      replace X1 := Lib.hid (box_keep X1.out c)
      clear c hb
      go_wp2_with fail
      refine wp_region_use (fun _ w' => Below w2.heap.size w2 w') (fun _ w w' => Below w.heap.size w w') (TcPhi (.slice aa a.length ka) (.slice ab b.length kb) a b) (fun _ => none) (by kernel_rfl) (by kernel_rfl) ?hS ?h0 ?hop ?hend
      case hS => exact fun i j v w w' _ _ hS h => tc_stable hS h
      case h0 => exact (Below.refl _ _).drew
      case hop =>
        intro i o hi V n w' hn hJ hd
        have hi' : i = 0 ∨ i = 1 ∨ i = 2 ∨ i = 3 ∨ i = 4 ∨ i = 5 := by
          have := (List.getElem?_eq_some_iff.1 hi).1
          simp at this
          omega
        have hz := hJ.size
        have HJ := Lib.hid (bup2 B.out hJ)
        obtain ⟨hb0, -⟩ := one_at (box_keep X0.out hJ)
        obtain ⟨hb1, -⟩ := one_at (box_keep X1.out hJ)
        rcases hi' with rfl | rfl | rfl | rfl | rfl | rfl
        all_goals
          simp at hi
          subst hi
          simp [Region.binds, TcPhi] at hd
        · simp [Frees, frameOf, go_sem, hb0]
          exact ⟨rfl, Below.refl _ _, hJ⟩
        · simp [Frees, frameOf, go_sem, hd]
          refine (toTable_any _ a _ _ _ (HA.out.below HJ.out) hx).mono ?_
          rintro e w'' ⟨v', rfl, o, c⟩
          exact ⟨_, rfl, ⟨v', _, _, rfl, o.rt⟩, c, hJ.trans (c.mono hz)⟩
        · simp [Frees, frameOf, go_sem, hb1]
          exact ⟨rfl, Below.refl _ _, hJ⟩
        · simp [Frees, frameOf, go_sem, hd]
          refine (toTable_any _ b _ _ _ (HB.out.below HJ.out) (by omega)).mono ?_
          rintro e w'' ⟨v', rfl, o, c⟩
          exact ⟨_, rfl, ⟨v', _, _, rfl, o.rt⟩, c, hJ.trans (c.mono hz)⟩
        · obtain ⟨⟨r1, lo1, hi1, e1, o1⟩, ⟨r2, lo2, hi2, e2, o2⟩⟩ := hd
          simp [Frees, frameOf, go_sem, e1, e2]
          refine (specTch_any r1 r2 a b _ _ _ _ _ o1 o2).mono ?_
          rintro e w'' ⟨rfl, c⟩
          exact ⟨_, rfl, rfl, c, hJ.trans (c.mono hz)⟩
        · simp [Frees, frameOf, go_sem, hd]
          exact ⟨rfl, Below.refl _ _, hJ⟩
      case hend =>
        intro V n w3 hn hJ hφ
        have h5 : V 5 = .int .i64 (tchg a b) := hφ 5 (by decide) rfl
        replace B := Lib.hid (bup2 B.out hJ)
        replace X0 := Lib.hid (box_keep X0.out hJ)
        replace X1 := Lib.hid (box_keep X1.out hJ)
        obtain ⟨hb, -⟩ := one_at X0.out
        clear hφ hJ
        simp [frameOf, Act.put, h5]
        clear h5
        go_wp2_with fail
        refine (toTable_any _ a _ _ _ (HA.out.below B.out) hx).mono ?_
        rintro e w4 ⟨v4, rfl, o4, c⟩
        obtain ⟨a4, cap4, b4, off4, rfl, -⟩ := o4.rt.open
        have c' := bup2 c (balloc w4 (.cells #[.slice a4 a.length cap4] 27))
        have O4 := Lib.hid (o4.below (balloc w4 (.cells #[.slice a4 a.length cap4] 27)))
        replace B := Lib.hid (bup2 B.out c')
        replace X0 := Lib.hid (box_keep X0.out c')
        replace X1 := Lib.hid (box_keep X1.out c')
        have X4 := Lib.hid (heap_alloc_new w4 (.cells #[.slice a4 a.length cap4] 27))
        obtain ⟨hb1, -⟩ := one_at X1.out
        clear c c' hb o4
        go_wp2_with fail
        refine (toTable_any _ b _ _ _ (HB.out.below B.out) (by omega)).mono ?_
        rintro e w5 ⟨v5, rfl, o5, c⟩
        obtain ⟨a5, cap5, b5, off5, rfl, -⟩ := o5.rt.open
        have c' := bup2 c (balloc w5 (.cells #[.slice a5 b.length cap5] 27))
        replace O4 := Lib.hid (O4.out.below c')
        have O5 := Lib.hid (o5.below (balloc w5 (.cells #[.slice a5 b.length cap5] 27)))
        replace B := Lib.hid (bup2 B.out c')
        replace X0 := Lib.hid (box_keep X0.out c')
        replace X1 := Lib.hid (box_keep X1.out c')
        replace X4 := Lib.hid (box_keep X4.out c')
        have X5 := Lib.hid (heap_alloc_new w5 (.cells #[.slice a5 b.length cap5] 27))
        obtain ⟨hb4, -⟩ := one_at X4.out
        clear c c' hb1 o5
        go_wp2_with fail
        refine (implTch_any _ _ a b _ _ _ _ _ O4.out.rt O5.out.rt).mono ?_
        rintro e w6 ⟨rfl, c⟩
        replace O4 := Lib.hid (O4.out.below c)
        replace O5 := Lib.hid (O5.out.below c)
        replace B := Lib.hid (bup2 B.out c)
        replace X0 := Lib.hid (box_keep X0.out c)
        replace X1 := Lib.hid (box_keep X1.out c)
        replace X4 := Lib.hid (box_keep X4.out c)
        replace X5 := Lib.hid (box_keep X5.out c)
        have hnn : (tchg a b != tchg a b) = false := by simp
        obtain ⟨hb0, -⟩ := one_at X0.out
        clear hb4
        obtain ⟨hb4, -⟩ := one_at X4.out
        have HD := Lib.hid (HA.out.below (bup2 B.out (bdrew w6)))
        have OD := Lib.hid (O4.out.below (bdrew w6))
        clear c
        go_wp2_with fail
        go_region_held3 (fun w' => w'.cell? ⟨w.heap.size, 0, none⟩ = some (.slice aa a.length ka) ∧ w'.cell? ⟨w4.heap.size, 0, none⟩ = some (.slice a4 a.length cap4))
          (first | exact ⟨hb0, hb4⟩ | exact ⟨cell_later (w := w6.drew) (by assumption) hb0, cell_later (w := w6.drew) (by assumption) hb4⟩ | exact ⟨cell_later (w := w6.drew) (bup2 (b := wa) (by assumption) (by assumption)) hb0, cell_later (w := w6.drew) (bup2 (b := wa) (by assumption) (by assumption)) hb4⟩)
          (first | (go_at_call 17; refine (toTable_any _ a _ _ _ HD.out hx).mono ?_; rintro e wa ⟨va, rfl, oa, ca⟩)
                 | (go_at_call 19; refine (eqTable_any _ _ a _ _ _ _ _ (OT.rt (OT.below (w := w6.drew) OD.out (by assumption))) (OT.rt (by assumption)) hx).mono ?_; rintro e wb ⟨rfl, cb⟩))
        have ca' : Below w6.drew.heap.size w6.drew wa := by assumption
        have cb' : Below wa.heap.size wa wb := by assumption
        have c := bup2 (bdrew w6) (bup2 ca' cb')
        replace O5 := Lib.hid (O5.out.below c)
        replace B := Lib.hid (bup2 B.out c)
        replace X1 := Lib.hid (box_keep X1.out c)
        replace X5 := Lib.hid (box_keep X5.out c)
        obtain ⟨hb1, -⟩ := one_at X1.out
        obtain ⟨hb5, -⟩ := one_at X5.out
        clear c ca' cb' hb0 hb4 HD OD
        have HD := Lib.hid (HB.out.below (bup2 B.out (bdrew wb)))
        have OD := Lib.hid (O5.out.below (bdrew wb))
        go_wp2_with fail
        go_region_held3 (fun w' => w'.cell? ⟨w.heap.size + 1, 0, none⟩ = some (.slice ab b.length kb) ∧ w'.cell? ⟨w5.heap.size, 0, none⟩ = some (.slice a5 b.length cap5))
          (first | exact ⟨hb1, hb5⟩ | exact ⟨cell_later (w := wb.drew) (by assumption) hb1, cell_later (w := wb.drew) (by assumption) hb5⟩ | exact ⟨cell_later (w := wb.drew) (bup2 (b := wc) (by assumption) (by assumption)) hb1, cell_later (w := wb.drew) (bup2 (b := wc) (by assumption) (by assumption)) hb5⟩)
          (first | (go_at_call 17; refine (toTable_any _ b _ _ _ HD.out (by omega)).mono ?_; rintro e wc ⟨vc, rfl, oc, cc⟩)
                 | (go_at_call 19; refine (eqTable_any _ _ b _ _ _ _ _ (OT.rt (OT.below (w := wb.drew) OD.out (by assumption))) (OT.rt (by assumption)) (by omega)).mono ?_; rintro e wd ⟨rfl, cd⟩))
        have ca' : Below wb.drew.heap.size wb.drew wc := by assumption
        have cb' : Below wc.heap.size wc wd := by assumption
        have HF := Lib.hid (bup2 HB0.out (bup2 B.out (bup2 (bdrew wb) (bup2 ca' cb'))))
        clear ca' cb'
        go_wp2_with fail
        all_goals (go_ret; exact ⟨rfl, HF.out⟩)
    · go_wp2_with fail
      refine (szI_no _ b _ _ (1048576 - tsz a) _ (HB.out.below B.out) (by omega) (by omega) (by omega)).mono ?_
      rintro e w2 ⟨rfl, c⟩
      have HF := Lib.hid (bup2 HB0.out (bup2 B.out c))
      clear c
      go_wp2_with fail
      all_goals (go_ret; exact ⟨rfl, HF.out⟩)
  · go_enter Try.func5, Try.ntmps5
    go_wp2_with fail
    refine (szT_no _ a _ _ 1048576 _ HA.out (Nat.le_refl _) hx).mono ?_
    rintro e w1 ⟨rfl, c⟩
    have HF := Lib.hid (bup2 HB0.out c)
    clear c
    go_wp2_with fail
    all_goals (go_ret; exact ⟨rfl, HF.out⟩)

end Go.Proofs.Ythpcgdkhipcieaa
