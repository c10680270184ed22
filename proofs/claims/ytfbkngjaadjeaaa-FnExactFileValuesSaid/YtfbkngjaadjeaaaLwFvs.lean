/-
  The walk of the law FnExactFileValues.
-/
import Derived.Test.YtfbkngjaadjeaaaFvw
import Derived.Test.YtfbkngjaadjeaaaDvm
import Derived.Test.YtfbkngjaadjeaaaTbu
import Derived.Test.YtfbkngjaadjeaaaTbm
import Derived.Test.YtfbkngjaadjeaaaUse
import Derived.Test.YtfbkngjaadjeaaaDvx
namespace Go.Proofs.Ytfbkngjaadjeaaa
open Go.RowKit

/-- A tuple of numbers and a word of truth. -/
def ITd (L : Nat) (w : World) (v : Value) (hs : List Int) (bb : Bool) : Prop := ∃ u, v = .tuple #[u, .bool bb] ∧ IVd L w u hs
theorem ITd.below {L : Nat} {w w' : World} {v : Value} {hs : List Int} {bb : Bool} (h : ITd L w v hs bb) (hB : Below w.heap.size w w') : ITd L w' v hs bb := by
  obtain ⟨u, rfl, h⟩ := h
  exact ⟨u, rfl, h.below hB⟩

/-- What lies in the slots of the two regions that draw their order. -/
def FqPhi (L : Nat) (va vb : Value) (d : List Bk) (t : List (List Int)) (f : Int) (hs : List Int) (bb : Bool) (i : Nat) (v : Value) (w : World) : Prop :=
  match i with
  | 0 => v = va
  | 1 => DVd w v d
  | 2 => v = .agg #[vb]
  | 3 => TVd w v t
  | 4 => v = .int .i64 f
  | 5 => ITd L w v hs bb
  | 6 => ITd L w v hs bb
  | 7 => IVd L w v hs
  | 8 => v = .bool bb
  | 9 => IVd L w v hs
  | 10 => v = .bool bb
  | _ => True
theorem fq_stable {L : Nat} {va vb : Value} {d : List Bk} {t : List (List Int)} {f : Int} {hs : List Int} {bb : Bool} {i : Nat} {v : Value} {w w' : World} (hB : Below w.heap.size w w') (h : FqPhi L va vb d t f hs bb i v w) : FqPhi L va vb d t f hs bb i v w' := by
  unfold FqPhi at *
  split at h
  all_goals first
    | exact h
    | exact h.below hB

set_option maxHeartbeats 8000000 in
set_option maxRecDepth 4000 in
theorem FnExactFileValues_walk (w : World) (v : Value) (d : List Bk) (h : RD w 0 w.heap.size v d) (vb : Value) (t : List (List Int)) (h2 : RT1 w 0 w.heap.size vb t) (f : Int) (hf : I64 f) :
    Calls Try.prog 3 #[v, vb, .int .i64 f] w fun e w' => e = .returned (.bool true) ∧ Below w.heap.size w w' := by
  obtain ⟨s2, rfl, h2⟩ := h2
  obtain ⟨a, cap, b, off, rfl, -⟩ := h.open
  obtain ⟨ab, kb, bb, jb, rfl, -⟩ := h2.open
  obtain ⟨w0, hw0⟩ : ∃ w0 : World, w0 = w.alloc (.cells #[.slice ab t.length kb] 25) := ⟨_, rfl⟩
  have HB0 : Hid (Below w.heap.size w w0) := Lib.hid (by rw [hw0]; exact balloc w _)
  have HD := Lib.hid (h.below HB0.out)
  have HT := Lib.hid (h2.below HB0.out)
  have X0 : Hid (w0.heap[w.heap.size]? = some (.cells #[.slice ab t.length kb] 25)) := Lib.hid (by rw [hw0]; exact heap_alloc_new w _)
  have z0 : w0.heap.size = w.heap.size + 1 := by rw [hw0]; simp
  have HW := Lib.hid hw0
  have hsz := szBlockS_any (.slice a d.length cap) d 0 w.heap.size 1048576 w0 HD.out (Nat.le_refl _)
  have hl12 := fvs_len d t f
  have HSP := Lib.hid (fun v tv lo hi lo2 hi2 wx h h2 => specFvs_any v tv d t f lo hi lo2 hi2 wx h h2 hf)
  have HIM := Lib.hid (fun v tv lo hi lo2 hi2 wx h h2 => implFvs_any v tv d t f lo hi lo2 hi2 wx h h2 hf)
  unfold NewIB at HSP HIM
  generalize fvs d t f = r at HSP HIM hl12
  obtain ⟨hs, bb⟩ := r
  simp only at HSP HIM hl12
  have hbb : (bb != bb) = false := by simp
  clear h h2 hw0
  by_cases hx : dsz d ≤ 1048576
  · rw [if_pos hx] at hsz
    have HSZ := Lib.hid hsz
    clear hsz
    go_enter Try.func3, Try.ntmps3
    go_wp2_with fail
    rw [← HW.out]
    refine HSZ.out.mono ?_
    rintro e w1 ⟨rfl, c⟩
    have hneg : decide ((1048576 : Int) - (dsz d : Int) < 0) = false := by simp; omega
    have B := Lib.hid c
    obtain ⟨hb, -⟩ := one_at (box_keep X0.out B.out)
    clear c HSZ HW
    by_cases hy : tsz t ≤ 1048576 - dsz d
    · have hyt : tsz t ≤ 1048576 := by omega
      have htf := toff_le t t.length
      go_wp2_with fail
      refine (szJ_yes _ t _ _ (1048576 - dsz d) _ (HT.out.below B.out) (by omega) (by omega) (by omega)).mono ?_
      rintro e w2 ⟨rfl, c⟩
      have hneg2 : decide ((1048576 : Int) - (dsz d : Int) - (tsz t : Int) < 0) = false := by simp; omega
      replace B := Lib.hid (bup2 B.out c)
      have z2 := B.out.size
      clear c hb
      go_wp2_with fail
      refine wp_region_use (fun _ w' => Below w2.heap.size w2 w') (fun _ w w' => Below w.heap.size w w') (FqPhi w2.heap.size (.slice a d.length cap) (.slice ab t.length kb) d t f hs bb) (fun _ => none) (by kernel_rfl) (by kernel_rfl) ?hS ?h0 ?hop ?hend
      case hS => exact fun i j v w w' _ _ hS h => fq_stable hS h
      case h0 => exact (Below.refl _ _).drew
      case hop =>
        intro i o hi V n w' hn hJ hd
        have hi' : i = 0 ∨ i = 1 ∨ i = 2 ∨ i = 3 ∨ i = 4 ∨ i = 5 ∨ i = 6 ∨ i = 7 ∨ i = 8 ∨ i = 9 ∨ i = 10 := by
          have := (List.getElem?_eq_some_iff.1 hi).1
          simp at this
          omega
        have hz := hJ.size
        have HJ := Lib.hid (bup2 B.out hJ)
        obtain ⟨hb0, -⟩ := one_at (box_keep X0.out HJ.out)
        rcases hi' with rfl | rfl | rfl | rfl | rfl | rfl | rfl | rfl | rfl | rfl | rfl
        all_goals
          simp at hi
          subst hi
          simp [Region.binds, FqPhi] at hd
        · simp [Frees, frameOf, go_sem]
          exact ⟨rfl, Below.refl _ _, hJ⟩
        · simp [Frees, frameOf, go_sem, hd]
          refine (toBlockS_any _ d _ _ _ (HD.out.below HJ.out) hx).mono ?_
          rintro e w'' ⟨v', rfl, o, c⟩
          exact ⟨_, rfl, ⟨_, _, o.rd⟩, c, hJ.trans (c.mono hz)⟩
        · simp [Frees, frameOf, go_sem, hb0]
          exact ⟨rfl, Below.refl _ _, hJ⟩
        · simp [Frees, frameOf, go_sem, hd]
          refine (toTable_any _ t _ _ _ (HT.out.below HJ.out) hyt).mono ?_
          rintro e w'' ⟨v', rfl, o, c⟩
          exact ⟨_, rfl, ⟨v', _, _, rfl, o.rt⟩, c, hJ.trans (c.mono hz)⟩
        · simp [Frees, frameOf, go_sem]
          exact ⟨rfl, Below.refl _ _, hJ⟩
        · obtain ⟨⟨lo1, hi1, o1⟩, ⟨r2, lo2, hi2, e2, o2⟩, e4⟩ := hd
          simp [Frees, frameOf, go_sem, e2, e4]
          refine (HSP.out _ r2 _ _ _ _ _ o1 o2).mono ?_
          rintro e w'' ⟨v', rfl, o, c⟩
          exact ⟨_, rfl, ⟨v', rfl, _, _, hz, Nat.le_refl _, o.ii⟩, c, hJ.trans (c.mono hz)⟩
        · simp [Frees, frameOf, go_sem]
          exact ⟨hd, Below.refl _ _, hJ⟩
        · obtain ⟨u, e6, o6⟩ := hd
          simp [Frees, frameOf, go_sem, e6]
          exact ⟨o6, Below.refl _ _, hJ⟩
        · obtain ⟨u, e6, o6⟩ := hd
          simp [Frees, frameOf, go_sem, e6]
          exact ⟨rfl, Below.refl _ _, hJ⟩
        · simp [Frees, frameOf, go_sem]
          exact ⟨hd.1, Below.refl _ _, hJ⟩
        · simp [Frees, frameOf, go_sem, hd.1]
          exact ⟨rfl, Below.refl _ _, hJ⟩
      case hend =>
        intro V n w3 hn hJ hφ
        obtain ⟨loE, hiE, g1, g2, hE⟩ : IVd w2.heap.size w3 (V 9) hs := hφ 9 (by decide) rfl
        have h10 : V 10 = .bool bb := hφ 10 (by decide) rfl
        obtain ⟨e3, he3⟩ : ∃ e3, e3 = V 9 := ⟨_, rfl⟩
        rw [← he3] at hE
        have E := Lib.hid hE
        have HE3 := Lib.hid he3.symm
        replace B := Lib.hid (bup2 B.out hJ)
        have z23 := hJ.size
        clear hφ hJ hE he3
        simp [frameOf, Act.put, HE3.out, h10]
        clear HE3 h10
        go_wp2_with fail
        refine (toBlockS_any _ d _ _ _ (HD.out.below B.out) hx).mono ?_
        rintro e w4 ⟨v4, rfl, o4, c⟩
        have O4 := Lib.hid o4
        replace B := Lib.hid (bup2 B.out c)
        replace E := Lib.hid (E.out.below c)
        have z34 := c.size
        obtain ⟨hb0, -⟩ := one_at (box_keep X0.out B.out)
        clear c o4
        go_wp2_with fail
        refine (toTable_any _ t _ _ _ (HT.out.below B.out) hyt).mono ?_
        rintro e w5 ⟨v5, rfl, o5, c⟩
        obtain ⟨a5, cap5, b5, off5, rfl, -⟩ := o5.rt.open
        obtain ⟨w5', hw5⟩ : ∃ w5' : World, w5' = w5.alloc (.cells #[.slice a5 t.length cap5] 33) := ⟨_, rfl⟩
        have c5 : Below w5.heap.size w5 w5' := by rw [hw5]; exact balloc w5 _
        have X5 : Hid (w5'.heap[w5.heap.size]? = some (.cells #[.slice a5 t.length cap5] 33)) := Lib.hid (by rw [hw5]; exact heap_alloc_new w5 _)
        have z45 := c.size
        have z55 : w5'.heap.size = w5.heap.size + 1 := by rw [hw5]; simp
        have cc := bup2 c c5
        have O5 := Lib.hid (o5.below c5)
        replace O4 := Lib.hid (O4.out.below cc)
        replace B := Lib.hid (bup2 B.out cc)
        replace E := Lib.hid (E.out.below cc)
        have HW := Lib.hid hw5
        clear c c5 cc hb0 o5 hw5
        go_wp2_with fail
        rw [← HW.out]
        refine (HIM.out _ _ _ _ _ _ _ O4.out.rd O5.out.rt).mono ?_
        rintro e w6 ⟨v6, rfl, o6, c⟩
        have V := Lib.hid o6.ii
        have z56 := c.size
        replace O4 := Lib.hid (O4.out.below c)
        replace O5 := Lib.hid (O5.out.below c)
        replace B := Lib.hid (bup2 B.out c)
        replace E := Lib.hid (E.out.below c)
        replace X5 := Lib.hid (box_keep X5.out c)
        clear c o6
        go_wp2_with fail
        refine (eqIntS_any v6 e3 hs _ _ _ _ _ V.out.ri E.out.ri (by omega)).mono ?_
        rintro e w7 ⟨rfl, c⟩
        replace O4 := Lib.hid (O4.out.below c)
        replace O5 := Lib.hid (O5.out.below c)
        replace B := Lib.hid (bup2 B.out c)
        replace E := Lib.hid (E.out.below c)
        replace V := Lib.hid (V.out.below c)
        replace X5 := Lib.hid (box_keep X5.out c)
        clear c
        go_wp2_with fail
        refine (toBlockS_any _ d _ _ _ (HD.out.below B.out) hx).mono ?_
        rintro e w8 ⟨v8, rfl, o8, c⟩
        have O8 := Lib.hid o8
        replace O4 := Lib.hid (O4.out.below c)
        replace O5 := Lib.hid (O5.out.below c)
        replace B := Lib.hid (bup2 B.out c)
        replace E := Lib.hid (E.out.below c)
        replace V := Lib.hid (V.out.below c)
        replace X5 := Lib.hid (box_keep X5.out c)
        clear c o8
        go_wp2_with fail
        refine (eqBlockS_any _ _ d _ _ _ _ _ O4.out.rd O8.out.rd hx).mono ?_
        rintro e w9 ⟨rfl, c⟩
        replace O4 := Lib.hid (O4.out.below c)
        replace O5 := Lib.hid (O5.out.below c)
        replace B := Lib.hid (bup2 B.out c)
        replace E := Lib.hid (E.out.below c)
        replace V := Lib.hid (V.out.below c)
        replace X5 := Lib.hid (box_keep X5.out c)
        clear c O8
        obtain ⟨hb0, -⟩ := one_at (box_keep X0.out B.out)
        obtain ⟨hb5, -⟩ := one_at X5.out
        have HDD := Lib.hid (HT.out.below (bup2 B.out (bdrew w9)))
        have OD := Lib.hid (O5.out.below (bdrew w9))
        go_wp2_with fail
        go_region_held3 (fun w' => w'.cell? ⟨w.heap.size, 0, none⟩ = some (.slice ab t.length kb) ∧ w'.cell? ⟨w5.heap.size, 0, none⟩ = some (.slice a5 t.length cap5))
          (first | exact ⟨hb0, hb5⟩ | exact ⟨cell_later (w := w9.drew) (by assumption) hb0, cell_later (w := w9.drew) (by assumption) hb5⟩ | exact ⟨cell_later (w := w9.drew) (bup2 (b := wa) (by assumption) (by assumption)) hb0, cell_later (w := w9.drew) (bup2 (b := wa) (by assumption) (by assumption)) hb5⟩)
          (first | (go_at_call 9; refine (toTable_any _ t _ _ _ HDD.out hyt).mono ?_; rintro e wa ⟨va, rfl, oa, ca⟩)
                 | (go_at_call 13; refine (eqTable_any _ _ t _ _ _ _ _ (OT.rt (OT.below (w := w9.drew) OD.out (by assumption))) (OT.rt (by assumption)) hyt).mono ?_; rintro e wb ⟨rfl, cb⟩))
        have ca' : Below w9.drew.heap.size w9.drew wa := by assumption
        have cb' : Below wa.heap.size wa wb := by assumption
        have c := bup2 (bdrew w9) (bup2 ca' cb')
        replace O4 := Lib.hid (O4.out.below c)
        replace O5 := Lib.hid (O5.out.below c)
        replace B := Lib.hid (bup2 B.out c)
        replace E := Lib.hid (E.out.below c)
        replace V := Lib.hid (V.out.below c)
        replace X5 := Lib.hid (box_keep X5.out c)
        clear c ca' cb' HDD OD hb0 hb5
        go_wp2_with fail
        refine (markBlockS_any _ d _ _ 1 _ O4.out hx (by omega)).mono ?_
        rintro e w10 ⟨⟨k', rfl, k1, k2⟩, -, c⟩
        replace B := Lib.hid (up_chg B.out c (by omega))
        replace E := Lib.hid (E.out.chg c (by omega))
        replace V := Lib.hid (V.out.chg c (by omega))
        replace O5 := Lib.hid (O5.out.chg c (by omega))
        replace X5 := Lib.hid (box_chg X5.out c (by omega))
        obtain ⟨hb5, -⟩ := one_at X5.out
        clear c O4
        go_wp2_with fail
        refine (markTable_any _ t _ _ (k' : Int) _ O5.out hyt (by omega) (by omega)).mono ?_
        rintro e w11 ⟨rfl, -, c⟩
        replace B := Lib.hid (up_chg B.out c (by omega))
        replace E := Lib.hid (E.out.chg c (by omega))
        replace V := Lib.hid (V.out.chg c (by omega))
        have hneg3 : decide ((k' : Int) + (toff t t.length : Int) < 0) = false := by simp; omega
        clear c hb5 O5 X5
        go_wp2_with fail
        refine (eqIntS_any v6 e3 hs _ _ _ _ _ V.out.ri E.out.ri (by omega)).mono ?_
        rintro e w12 ⟨rfl, c⟩
        replace B := Lib.hid (bup2 B.out c)
        replace E := Lib.hid (E.out.below c)
        replace V := Lib.hid (V.out.below c)
        clear c
        go_wp2_with fail
        refine (markII v6 hs _ _ 1 _ V.out (by omega) (by omega) (by omega)).mono ?_
        rintro e w13 ⟨rfl, o13, c⟩
        replace V := Lib.hid o13
        replace B := Lib.hid (up_chg B.out c (by omega))
        replace E := Lib.hid (E.out.chg c (by omega))
        have hneg4 : decide ((1 : Int) + (hs.length : Int) < 0) = false := by simp; omega
        have hnn : ((1 : Int) + (hs.length : Int) != (1 : Int) + (hs.length : Int)) = false := by simp
        clear c o13
        go_wp2_with fail
        refine (heldII v6 hs.length _ _ 1 _ V.out (by omega) (by omega) (by omega)).mono ?_
        rintro e w14 ⟨rfl, rfl⟩
        go_wp2_with fail
        refine wp_region_use (fun _ w' => Below w13.heap.size w13 w') (fun _ w w' => Below w.heap.size w w') (FqPhi w13.heap.size (.slice a d.length cap) (.slice ab t.length kb) d t f hs bb) (fun _ => none) (by kernel_rfl) (by kernel_rfl) ?hS2 ?h02 ?hop2 ?hend2
        case hS2 => exact fun i j v w w' _ _ hS h => fq_stable hS h
        case h02 => exact (Below.refl _ _).drew
        case hop2 =>
          intro i o hi V n w' hn hJ hd
          have hi' : i = 0 ∨ i = 1 ∨ i = 2 ∨ i = 3 ∨ i = 4 ∨ i = 5 ∨ i = 6 ∨ i = 7 ∨ i = 8 ∨ i = 9 ∨ i = 10 := by
            have := (List.getElem?_eq_some_iff.1 hi).1
            simp at this
            omega
          have hz := hJ.size
          have HJ := Lib.hid (bup2 B.out hJ)
          obtain ⟨hb0, -⟩ := one_at (box_keep X0.out HJ.out)
          rcases hi' with rfl | rfl | rfl | rfl | rfl | rfl | rfl | rfl | rfl | rfl | rfl
          all_goals
            simp at hi
            subst hi
            simp [Region.binds, FqPhi] at hd
          · simp [Frees, frameOf, go_sem]
            exact ⟨rfl, Below.refl _ _, hJ⟩
          · simp [Frees, frameOf, go_sem, hd]
            refine (toBlockS_any _ d _ _ _ (HD.out.below HJ.out) hx).mono ?_
            rintro e w'' ⟨v', rfl, o, c⟩
            exact ⟨_, rfl, ⟨_, _, o.rd⟩, c, hJ.trans (c.mono hz)⟩
          · simp [Frees, frameOf, go_sem, hb0]
            exact ⟨rfl, Below.refl _ _, hJ⟩
          · simp [Frees, frameOf, go_sem, hd]
            refine (toTable_any _ t _ _ _ (HT.out.below HJ.out) hyt).mono ?_
            rintro e w'' ⟨v', rfl, o, c⟩
            exact ⟨_, rfl, ⟨v', _, _, rfl, o.rt⟩, c, hJ.trans (c.mono hz)⟩
          · simp [Frees, frameOf, go_sem]
            exact ⟨rfl, Below.refl _ _, hJ⟩
          · obtain ⟨⟨lo1, hi1, o1⟩, ⟨r2, lo2, hi2, e2, o2⟩, e4⟩ := hd
            simp [Frees, frameOf, go_sem, e2, e4]
            refine (HIM.out _ r2 _ _ _ _ _ o1 o2).mono ?_
            rintro e w'' ⟨v', rfl, o, c⟩
            exact ⟨_, rfl, ⟨v', rfl, _, _, hz, Nat.le_refl _, o.ii⟩, c, hJ.trans (c.mono hz)⟩
          · simp [Frees, frameOf, go_sem]
            exact ⟨hd, Below.refl _ _, hJ⟩
          · obtain ⟨u, e6, o6⟩ := hd
            simp [Frees, frameOf, go_sem, e6]
            exact ⟨o6, Below.refl _ _, hJ⟩
          · obtain ⟨u, e6, o6⟩ := hd
            simp [Frees, frameOf, go_sem, e6]
            exact ⟨rfl, Below.refl _ _, hJ⟩
          · simp [Frees, frameOf, go_sem]
            exact ⟨hd.1, Below.refl _ _, hJ⟩
          · simp [Frees, frameOf, go_sem, hd.1]
            exact ⟨rfl, Below.refl _ _, hJ⟩
        case hend2 =>
          intro V' n w15 hn hJ hφ
          obtain ⟨loH, hiH, -, -, hH⟩ : IVd w13.heap.size w15 (V' 9) hs := hφ 9 (by decide) rfl
          have h10 : V' 10 = .bool bb := hφ 10 (by decide) rfl
          obtain ⟨h3, hh3⟩ : ∃ h3, h3 = V' 9 := ⟨_, rfl⟩
          rw [← hh3] at hH
          have HH := Lib.hid hH
          have HE3 := Lib.hid hh3.symm
          replace B := Lib.hid (bup2 B.out hJ)
          replace E := Lib.hid (E.out.below hJ)
          replace V := Lib.hid (V.out.below hJ)
          clear hφ hJ hH hh3
          simp [frameOf, Act.put, HE3.out, h10]
          clear HE3 h10
          go_wp2_with fail
          refine (eqIntS_any h3 e3 hs _ _ _ _ _ HH.out.ri E.out.ri (by omega)).mono ?_
          rintro e w16 ⟨rfl, c⟩
          replace B := Lib.hid (bup2 B.out c)
          replace V := Lib.hid (V.out.below c)
          clear c
          go_wp2_with fail
          refine (heldII v6 hs.length _ _ 1 _ V.out (by omega) (by omega) (by omega)).mono ?_
          rintro e w17 ⟨rfl, rfl⟩
          have HF := Lib.hid (bup2 HB0.out B.out)
          go_wp2_with fail
          all_goals (go_ret; exact ⟨rfl, HF.out⟩)
    · go_wp2_with fail
      refine (szJ_no _ t _ _ (1048576 - dsz d) _ (HT.out.below B.out) (by omega) (by omega) (by omega)).mono ?_
      rintro e w2 ⟨rfl, c⟩
      have HF := Lib.hid (bup2 HB0.out (bup2 B.out c))
      clear c
      go_wp2_with fail
      all_goals (go_ret; exact ⟨rfl, HF.out⟩)
  · rw [if_neg hx] at hsz
    have HSZ := Lib.hid hsz
    clear hsz
    go_enter Try.func3, Try.ntmps3
    go_wp2_with fail
    rw [← HW.out]
    refine HSZ.out.mono ?_
    rintro e w1 ⟨rfl, c⟩
    have HF := Lib.hid (bup2 HB0.out c)
    clear c HSZ HW
    go_wp2_with fail
    all_goals (go_ret; exact ⟨rfl, HF.out⟩)

end Go.Proofs.Ytfbkngjaadjeaaa
