/-
  The walk of the law FnExactBestVictim.
-/
import Derived.Test.YtgmkkajdmbmliaaBvx
import Derived.Test.YtgmkkajdmbmliaaBvs
import Derived.Test.YtgmkkajdmbmliaaDvi
import Derived.Test.YtgmkkajdmbmliaaTbu
import Derived.Test.YtgmkkajdmbmliaaUse
import Derived.Test.YtgmkkajdmbmliaaDvx
namespace Go.Proofs.Ytgmkkajdmbmliaa
open Go.RowKit

def BvPhi (va vb : Value) (d : List Bk) (t : List (List Int)) (h : Hd) (now : Int) (i : Nat) (v : Value) (w : World) : Prop :=
  match i with
  | 0 => v = va
  | 1 => DVd w v d
  | 2 => v = .agg #[vb]
  | 3 => TVd w v t
  | 4 => v = hdv h
  | 5 => v = hdv h
  | 6 => v = .int .i64 now
  | 7 => v = .int .i64 (bv d t h now)
  | 8 => v = .int .i64 (bv d t h now)
  | _ => True
theorem bv_stable {va vb : Value} {d : List Bk} {t : List (List Int)} {h' : Hd} {now : Int} {i : Nat} {v : Value} {w w' : World} (hB : Below w.heap.size w w') (h : BvPhi va vb d t h' now i v w) : BvPhi va vb d t h' now i v w' := by
  unfold BvPhi at *
  split at h
  all_goals first
    | exact h
    | exact h.below hB

set_option maxHeartbeats 4000000 in
set_option maxRecDepth 4000 in
theorem FnExactBestVictim_walk (w : World) (v : Value) (d : List Bk) (hd0 : RD w 0 w.heap.size v d) (vb : Value) (t : List (List Int)) (h2 : RT1 w 0 w.heap.size vb t) (vc : Value) (h : Hd) (h3 : vc = hdv h ∧ HdI h) (now : Int) (hnow : I64 now) :
    Calls Try.prog 3 #[v, vb, vc, .int .i64 now] w fun e w' => e = .returned (.bool true) ∧ Below w.heap.size w w' := by
  obtain ⟨s2, rfl, h2⟩ := h2
  obtain ⟨rfl, hh⟩ := h3
  have HHI := Lib.hid hh
  have HNW := Lib.hid hnow
  obtain ⟨a, cap, b, off, rfl, -⟩ := hd0.open
  obtain ⟨ab, kb, bb, jb, rfl, -⟩ := h2.open
  obtain ⟨w0, hw0⟩ : ∃ w0 : World, w0 = (w.alloc (.cells #[.slice ab t.length kb] 25)).alloc (.cells #[.int .i64 h.hot, .int .i64 h.warm, .int .i64 h.cold] 27) := ⟨_, rfl⟩
  have HB0 : Hid (Below w.heap.size w w0) := Lib.hid (by rw [hw0]; exact two_below w _ _)
  have HD := Lib.hid (hd0.below HB0.out)
  have e1 : (w.alloc (.cells #[.slice ab t.length kb] 25)).heap.size = w.heap.size + 1 := by simp
  have X1 : Hid (w0.heap[w.heap.size + 1]? = some (.cells #[.int .i64 h.hot, .int .i64 h.warm, .int .i64 h.cold] 27)) := Lib.hid (by have := heap_alloc_new (w.alloc (.cells #[.slice ab t.length kb] 25)) (.cells #[.int .i64 h.hot, .int .i64 h.warm, .int .i64 h.cold] 27); rw [e1] at this; rw [hw0]; exact this)
  have HT := Lib.hid (h2.below HB0.out)
  have X0 : Hid (w0.heap[w.heap.size]? = some (.cells #[.slice ab t.length kb] 25)) := Lib.hid (by rw [hw0]; exact box_keep (heap_alloc_new w _) (balloc _ _))
  have HW := Lib.hid hw0
  have hsz := szBlockS_any (.slice a d.length cap) d 0 w.heap.size 1048576 w0 HD.out (Nat.le_refl _)
  clear hd0 h2 hw0 e1 hh hnow
  unfold hdv
  by_cases hx : dsz d ≤ 1048576
  · rw [if_pos hx] at hsz
    have HSZ := Lib.hid hsz
    clear hsz
    go_enter Try.func3, Try.ntmps3
    go_wp2_with fail
    rw [← HW.out]
    refine HSZ.out.mono ?_
    rintro e w1 ⟨rfl, c⟩
    have hneg : decide ((1048576 : Int) - (dsz d : Int) < 0) = false := by simp; omega
    have B := Lib.hid c
    replace X0 := Lib.hid (box_keep X0.out c)
    obtain ⟨hb, -⟩ := one_at X0.out
    clear c HSZ HW
    by_cases hy : tsz t ≤ 1048576 - dsz d
    · go_wp2_with fail
      refine (szJ_yes _ t _ _ (1048576 - dsz d) _ (HT.out.below B.out) (by omega) (by omega) (by omega)).mono ?_
      rintro e w2 ⟨rfl, c⟩
      have hneg2 : decide ((1048576 : Int) - (dsz d : Int) - (tsz t : Int) < 0) = false := by simp; omega
      replace B := Lib.hid (bup2 B.out c)
      replace X0 := Lib.hid (box_keep X0.out c)
      clear c hb
      go_wp2_with fail
      refine wp_region_use (fun _ w' => Below w2.heap.size w2 w') (fun _ w w' => Below w.heap.size w w') (BvPhi (.slice a d.length cap) (.slice ab t.length kb) d t h now) (fun _ => none) (by kernel_rfl) (by kernel_rfl) ?hS ?h0 ?hop ?hend
      case hS => exact fun i j v w w' _ _ hS h => bv_stable hS h
      case h0 => exact (Below.refl _ _).drew
      case hop =>
        intro i o hi V n w' hn hJ hd
        have hi' : i = 0 ∨ i = 1 ∨ i = 2 ∨ i = 3 ∨ i = 4 ∨ i = 5 ∨ i = 6 ∨ i = 7 ∨ i = 8 := by
          have := (List.getElem?_eq_some_iff.1 hi).1
          simp at this
          omega
        have hz := hJ.size
        have HJ := Lib.hid (bup2 B.out hJ)
        obtain ⟨hb0, -⟩ := one_at (box_keep X0.out hJ)
        obtain ⟨⟨q0, q1, q2⟩, -⟩ := three_at (box_keep X1.out HJ.out)
        rcases hi' with rfl | rfl | rfl | rfl | rfl | rfl | rfl | rfl | rfl
        all_goals
          simp at hi
          subst hi
          simp [Region.binds, BvPhi] at hd
        · simp [Frees, frameOf, go_sem]
          exact ⟨rfl, Below.refl _ _, hJ⟩
        · simp [Frees, frameOf, go_sem, hd]
          refine (toBlockS_any _ d _ _ _ (HD.out.below HJ.out) hx).mono ?_
          rintro e w'' ⟨v', rfl, o, c⟩
          exact ⟨_, rfl, ⟨_, _, o.rd⟩, c, hJ.trans (c.mono hz)⟩
        · simp [Frees, frameOf, go_sem, hb0]
          exact ⟨rfl, Below.refl _ _, hJ⟩
        · simp [Frees, frameOf, go_sem, hd]
          refine (toTable_any _ t _ _ _ (HT.out.below HJ.out) (by omega)).mono ?_
          rintro e w'' ⟨v', rfl, o, c⟩
          exact ⟨_, rfl, ⟨v', _, _, rfl, o.rt⟩, c, hJ.trans (c.mono hz)⟩
        · simp [Frees, frameOf, go_sem, q0, q1, q2]
          exact ⟨rfl, Below.refl _ _, hJ⟩
        · simp [Frees, frameOf, go_sem, hd]
          refine (toHeads_any h _).mono ?_
          rintro e w'' ⟨rfl, c⟩
          exact ⟨_, rfl, rfl, c, hJ.trans (c.mono hz)⟩
        · simp [Frees, frameOf, go_sem]
          exact ⟨rfl, Below.refl _ _, hJ⟩
        · obtain ⟨⟨lo1, hi1, o1⟩, ⟨r2, lo2, hi2, e2, o2⟩, e5, e6⟩ := hd
          simp [Frees, frameOf, go_sem, e2, e5, e6]
          refine (specBv_any _ r2 d t h now _ _ _ _ _ o1 o2 HHI.out (dsz_row hx).1).mono ?_
          rintro e w'' ⟨rfl, c⟩
          exact ⟨_, rfl, rfl, c, hJ.trans (c.mono hz)⟩
        · simp [Frees, frameOf, go_sem, hd]
          exact ⟨rfl, Below.refl _ _, hJ⟩
      case hend =>
        intro V n w3 hn hJ hφ
        have h5 : V 8 = .int .i64 (bv d t h now) := hφ 8 (by decide) rfl
        replace B := Lib.hid (bup2 B.out hJ)
        replace X0 := Lib.hid (box_keep X0.out hJ)
        clear hφ hJ
        simp [frameOf, Act.put, h5]
        clear h5
        go_wp2_with fail
        refine (toBlockS_any _ d _ _ _ (HD.out.below B.out) hx).mono ?_
        rintro e w4 ⟨v4, rfl, o4, c⟩
        have O4 := Lib.hid o4
        replace B := Lib.hid (bup2 B.out c)
        replace X0 := Lib.hid (box_keep X0.out c)
        obtain ⟨hb0, -⟩ := one_at X0.out
        clear c o4
        go_wp2_with fail
        refine (toTable_any _ t _ _ _ (HT.out.below B.out) (by omega)).mono ?_
        rintro e w5 ⟨v5, rfl, o5, c⟩
        obtain ⟨a5, cap5, b5, off5, rfl, -⟩ := o5.rt.open
        have c' := bup2 c (balloc w5 (.cells #[.slice a5 t.length cap5] 33))
        replace O4 := Lib.hid (O4.out.below c')
        have O5 := Lib.hid (o5.below (balloc w5 (.cells #[.slice a5 t.length cap5] 33)))
        replace B := Lib.hid (bup2 B.out c')
        replace X0 := Lib.hid (box_keep X0.out c')
        have X5 := Lib.hid (heap_alloc_new w5 (.cells #[.slice a5 t.length cap5] 33))
        clear c c' hb0 o5
        obtain ⟨⟨q0, q1, q2⟩, -⟩ := three_at (box_keep X1.out B.out)
        obtain ⟨hb5, -⟩ := one_at X5.out
        obtain ⟨w5', hw5⟩ : ∃ w5' : World, w5' = w5.alloc (.cells #[.slice a5 t.length cap5] 33) := ⟨_, rfl⟩
        rw [← hw5] at q0 q1 q2 hb5 O4 O5 B X0 X5
        have HW5 := Lib.hid hw5
        clear hw5
        have OD4 := Lib.hid (O4.out.below (bdrew w5'))
        have OD5 := Lib.hid (O5.out.below (bdrew w5'))
        go_wp2
        rw [← HW5.out]
        first
          | go_region_with (first | (go_at_call 9; refine (toHeads_any h _).mono ?_; rintro e wa ⟨rfl, ba⟩; have hb5' := cell_later ba hb5; have ca := ba)
                                  | (go_at_call 10; refine (implBv_any _ _ d t h now _ _ _ _ _ (OD.rd (OD.below OD4.out ca)) (OT.rt (OT.below OD5.out ca)) HHI.out HNW.out).mono ?_; rintro e w6 ⟨rfl, b6⟩; have cb := b6))
          | fail
        all_goals
          have c := bup2 (bdrew w5') (bup2 ca cb)
          clear ca cb ba b6 hb5' hb5 q0 q1 q2 OD4 OD5
          replace O4 := Lib.hid (O4.out.below c)
          replace O5 := Lib.hid (O5.out.below c)
          replace B := Lib.hid (bup2 B.out c)
          replace X0 := Lib.hid (box_keep X0.out c)
          replace X5 := Lib.hid (box_keep X5.out c)
          have hnn : (bv d t h now != bv d t h now) = false := by simp
          clear c
          go_wp2_with fail
          refine (toBlockS_any _ d _ _ _ (HD.out.below B.out) hx).mono ?_
          rintro e w7 ⟨v7, rfl, o7, c⟩
          replace O4 := Lib.hid (O4.out.below c)
          replace O5 := Lib.hid (O5.out.below c)
          replace B := Lib.hid (bup2 B.out c)
          replace X0 := Lib.hid (box_keep X0.out c)
          replace X5 := Lib.hid (box_keep X5.out c)
          have O7 := Lib.hid o7
          clear c o7
          go_wp2_with fail
          refine (eqBlockS_any _ _ d _ _ _ _ _ O4.out.rd O7.out.rd hx).mono ?_
          rintro e w8 ⟨rfl, c⟩
          replace O5 := Lib.hid (O5.out.below c)
          replace B := Lib.hid (bup2 B.out c)
          replace X0 := Lib.hid (box_keep X0.out c)
          replace X5 := Lib.hid (box_keep X5.out c)
          obtain ⟨hb0, -⟩ := one_at X0.out
          obtain ⟨hb5, -⟩ := one_at X5.out
          clear c
          have HDD := Lib.hid (HT.out.below (bup2 B.out (bdrew w8)))
          have OD := Lib.hid (O5.out.below (bdrew w8))
          go_wp2_with fail
          go_region_held3 (fun w' => w'.cell? ⟨w.heap.size, 0, none⟩ = some (.slice ab t.length kb) ∧ w'.cell? ⟨w5.heap.size, 0, none⟩ = some (.slice a5 t.length cap5))
            (first | exact ⟨hb0, hb5⟩ | exact ⟨cell_later (w := w8.drew) (by assumption) hb0, cell_later (w := w8.drew) (by assumption) hb5⟩ | exact ⟨cell_later (w := w8.drew) (bup2 (b := wa) (by assumption) (by assumption)) hb0, cell_later (w := w8.drew) (bup2 (b := wa) (by assumption) (by assumption)) hb5⟩)
            (first | (go_at_call 8; refine (toTable_any _ t _ _ _ HDD.out (by omega)).mono ?_; rintro e wa ⟨va, rfl, oa, ca⟩)
                   | (go_at_call 12; refine (eqTable_any _ _ t _ _ _ _ _ (OT.rt (OT.below (w := w8.drew) OD.out (by assumption))) (OT.rt (by assumption)) (by omega)).mono ?_; rintro e wb ⟨rfl, cb⟩))
          have ca' : Below w8.drew.heap.size w8.drew wa := by assumption
          have cb' : Below wa.heap.size wa wb := by assumption
          have HF := Lib.hid (bup2 HB0.out (bup2 B.out (bup2 (bdrew w8) (bup2 ca' cb'))))
          clear ca' cb' hb0 hb5 HDD OD
          go_wp2_with fail
          all_goals (go_ret; exact ⟨rfl, HF.out⟩)
    · go_wp2_with fail
      refine (szJ_no _ t _ _ (1048576 - dsz d) _ (HT.out.below B.out) (by omega) (by omega) (by omega)).mono ?_
      rintro e w2 ⟨rfl, c⟩
      have HF := Lib.hid (bup2 HB0.out (bup2 B.out c))
      clear c
      go_wp2_with fail
      all_goals (go_ret; exact ⟨rfl, HF.out⟩)
  · rw [if_neg hx] at hsz
    have HSZ := Lib.hid hsz
    clear hsz
    go_enter Try.func3, Try.ntmps3
    go_wp2_with fail
    rw [← HW.out]
    refine HSZ.out.mono ?_
    rintro e w1 ⟨rfl, c⟩
    have HF := Lib.hid (bup2 HB0.out c)
    clear c HSZ HW
    go_wp2_with fail
    all_goals (go_ret; exact ⟨rfl, HF.out⟩)

end Go.Proofs.Ytgmkkajdmbmliaa
