/-
  The walk of the law FnExactPutName.
-/
import Derived.Test.YthhganlnljoinaaLwNmf
import Derived.Test.YthhganlnljoinaaNmm
import Derived.Test.YthhganlnljoinaaNps
import Derived.Test.YthhganlnljoinaaOpn
namespace Go.Proofs.Ythhganlnljoinaa
open Go.RowKit

theorem nmPut_len (xs : List (ByteArray × Int)) (n : ByteArray × Int) : (nmPut xs n).1.length ≤ xs.length + 1 := by
  unfold nmPut
  split
  · split
    · rw [nmIns_len]; exact Nat.le_refl _
    · simp
  · simp
theorem nm_cnt (l : List (ByteArray × Int)) (h : ∀ e ∈ l, nmOk e = true) : l.length = cnt l 0 + cnt l 1 + cnt l 2 := by
  induction l with
  | nil => rfl
  | cons e l ih =>
    have h1 := ih fun x hx => h x (by simp [hx])
    have hb := bkt_ok (nmOk_iff.1 (h e (by simp))).1
    have hb' : bkt e.1 = 0 ∨ bkt e.1 = 1 ∨ bkt e.1 = 2 := by omega
    unfold cnt at *
    rcases hb' with hb | hb | hb <;> simp [hb] <;> omega
theorem nmVal_le {l : List (ByteArray × Int)} (h : nmVal l = true) : l.length ≤ 9 := by
  have h' := nmVal_iff.1 h
  have := nm_cnt l h'.1
  have := h'.2.2 0
  have := h'.2.2 1
  have := h'.2.2 2
  omega
theorem nmPut_le {xs : List (ByteArray × Int)} (hx : xs.length ≤ 1048576) (n : ByteArray × Int) : (nmPut xs n).1.length ≤ 1048576 := by
  by_cases hv : nmVal xs = true
  · have := nmPut_len xs n
    have := nmVal_le hv
    omega
  · rw [nmPut, if_neg hv]; simp
/-- As a call with whatever slice that is not nil. -/
theorem on_form {w : World} {lo : Nat} {v : Value} {xs : List (ByteArray × Int)} (h : ON w lo v xs) (hv : v ≠ .slice none 0 0) : ∃ g cap, v = .slice (some ⟨g, 0, none⟩) xs.length cap := by
  obtain ⟨g, cap, rfl, -⟩ := own_shape h.1 hv
  exact ⟨g, cap, rfl⟩
theorem specPutE (v : Value) (xs : List (ByteArray × Int)) (n : ByteArray × Int) (hn : N64 n) (lo : Nat) (w : World) (h : ON w lo v xs) (hv : v ≠ .slice none 0 0) (hx : xs.length ≤ 1048576) :
    Calls Try.prog 28 #[v, .agg #[.string n.1, .int .i64 n.2]] w (PutPost xs n w) := by
  obtain ⟨g, cap, rfl⟩ := on_form h hv
  exact (specPut_any g 0 cap xs n hn _ _ w h.rn hx).mono fun e w' ⟨v, h1, h2, h3⟩ => ⟨v, h1, h2.1, h3⟩
theorem implPutE (v : Value) (xs : List (ByteArray × Int)) (n : ByteArray × Int) (hn : N64 n) (lo : Nat) (w : World) (h : ON w lo v xs) (hv : v ≠ .slice none 0 0) (hx : xs.length ≤ 1048576) :
    Calls Try.prog 30 #[v, .agg #[.string n.1, .int .i64 n.2]] w (PutPost xs n w) := by
  obtain ⟨g, cap, rfl⟩ := on_form h hv
  exact implPut_any g 0 cap xs n hn _ _ w h.rn hx

/-- The regions in which the law puts: what an operation's value is. -/
def ExPhi (L : Nat) (xs : List (ByteArray × Int)) (s : ByteArray) (f : Int) (M : List (ByteArray × Int) × Bool) (v0 : Value) (i : Nat) (v : Value) (w : World) : Prop :=
  match i with
  | 0 => v = v0
  | 1 => ON w L v xs ∧ v ≠ .slice none 0 0
  | 2 => v = .agg #[.string s, .int .i64 f]
  | 3 => v = .agg #[.string s, .int .i64 f]
  | 4 => ∃ r, v = .tuple #[r, .bool M.2] ∧ ON w L r M.1
  | 5 => ∃ r, v = .tuple #[r, .bool M.2] ∧ ON w L r M.1
  | 6 => ON w L v M.1
  | 7 => v = .bool M.2
  | 8 => ON w L v M.1
  | 9 => v = .bool M.2
  | _ => True
theorem ex_stable {L : Nat} {xs : List (ByteArray × Int)} {s : ByteArray} {f : Int} {M : List (ByteArray × Int) × Bool} {v0 : Value} {i : Nat} {v : Value} {w w' : World} (hB : Below w.heap.size w w') (h : ExPhi L xs s f M v0 i v w) : ExPhi L xs s f M v0 i v w' := by
  unfold ExPhi at *
  split at h
  all_goals first
    | exact h
    | exact h.below hB
    | exact ⟨h.1.below hB, h.2⟩
    | (obtain ⟨r, h1, h2⟩ := h; exact ⟨r, h1, h2.below hB⟩)

set_option maxHeartbeats 4000000 in
theorem FnExactPutName_walk (w : World) (v : Value) (xs : List (ByteArray × Int)) (h : RN w 0 w.heap.size v xs) (v1 : Value) (n : ByteArray × Int) (h1 : R1 v1 n) :
    Calls Try.prog 9 #[v, v1] w fun e w' => e = .returned (.bool true) ∧ Below w.heap.size w w' := by
  obtain ⟨s, f⟩ := n
  obtain ⟨rfl, hn⟩ := h1
  simp only
  have HN := Lib.hid hn
  have hs9 : s.size ≤ 9223372036854775807 := hn.1
  have hb0 : Below w.heap.size w (w.alloc (.cells #[.string s, .int .i64 f] 42)) := (Below.refl _ _).alloc (Nat.le_refl _) _
  have HB0 := Lib.hid hb0
  have H := Lib.hid (h.below hb0)
  clear h hn hb0
  by_cases hx : nsz xs ≤ 1048576
  · have hx1 := nsz_len hx
    by_cases hsz : (s.size : Int) ≤ 1048576 - (nsz xs : Int)
    · have hc := fun W => szName_any s f (1048576 - (nsz xs : Int)) W hs9 (by omega) (by omega)
      simp only [if_pos hsz] at hc
      have HC := Lib.hid hc
      clear hc
      have HL := Lib.hid (nmPut_le hx1 (s, f))
      go_enter Try.func9, Try.ntmps9
      go_wp2_with fail
      refine (szN_yes _ xs _ _ _ H.out hx).mono ?_
      rintro e w1 ⟨rfl, b1⟩
      have B1 := Lib.hid b1
      obtain ⟨hb0, hb1⟩ := box_at ((B1.out.block w.heap.size (by simp)).trans (heap_alloc_new _ _))
      clear b1
      go_wp2_with fail
      refine (HC.out _).mono ?_
      rintro e w2 ⟨rfl, b2⟩
      have B2 := Lib.hid (bup B1.out (Nat.le_refl _) b2)
      clear b2 hb0 hb1
      go_wp2_with fail
      refine wp_region_use (fun _ w' => Below w2.heap.size w2 w') (fun _ w w' => Below w.heap.size w w') (ExPhi w2.heap.size xs s f (nmPut xs (s, f)) v) (fun _ => none) (by kernel_rfl) (by kernel_rfl) ?hS ?h0 ?hop ?hend
      case hS => exact fun i j v w w' _ _ hS h => ex_stable hS h
      case h0 => exact (Below.refl _ _).drew
      case hop =>
        intro i o hi V n w' hn hJ hd
        have hi' : i = 0 ∨ i = 1 ∨ i = 2 ∨ i = 3 ∨ i = 4 ∨ i = 5 ∨ i = 6 ∨ i = 7 ∨ i = 8 ∨ i = 9 := by
          have := (List.getElem?_eq_some_iff.1 hi).1
          simp at this
          omega
        have hz := hJ.size
        have HJ := Lib.hid (bup B2.out (Nat.le_refl _) hJ)
        rcases hi' with rfl | rfl | rfl | rfl | rfl | rfl | rfl | rfl | rfl | rfl
        all_goals
          simp at hi
          subst hi
          simp [Region.binds, ExPhi] at hd
        · simp [Frees, frameOf, go_sem]
          exact ⟨rfl, Below.refl _ _, hJ⟩
        · simp [Frees, frameOf, go_sem, hd]
          refine (toNameS_nn _ xs _ _ _ (H.out.below HJ.out) hx1).mono ?_
          rintro e w'' ⟨v', rfl, ⟨o1, o2⟩, c⟩
          exact ⟨v', rfl, ⟨o1.wide hz, o2⟩, c, hJ.trans (c.mono hz)⟩
        · obtain ⟨hb0, hb1⟩ := box_at ((HJ.out.block w.heap.size (by simp)).trans (heap_alloc_new _ _))
          simp [Frees, frameOf, go_sem, hb0, hb1]
          exact ⟨rfl, Below.refl _ _, hJ⟩
        · simp [Frees, frameOf, go_sem, hd]
          refine (toName_any _ _ _).mono ?_
          rintro e w'' ⟨rfl, c⟩
          exact ⟨_, rfl, rfl, c, hJ.trans (c.mono hz)⟩
        · obtain ⟨⟨o1, o2⟩, e3⟩ := hd
          simp [Frees, frameOf, go_sem, e3]
          refine (specPutE (V 1) xs (s, f) HN.out _ _ o1 o2 hx1).mono ?_
          rintro e w'' ⟨r, rfl, o4, c⟩
          exact ⟨_, rfl, ⟨r, rfl, o4.wide hz⟩, c, hJ.trans (c.mono hz)⟩
        · simp [Frees, frameOf, go_sem]
          exact ⟨hd, Below.refl _ _, hJ⟩
        · obtain ⟨r, e5, o5⟩ := hd
          simp [Frees, frameOf, go_sem, e5]
          exact ⟨o5, Below.refl _ _, hJ⟩
        · obtain ⟨r, e5, o5⟩ := hd
          simp [Frees, frameOf, go_sem, e5]
          exact ⟨rfl, Below.refl _ _, hJ⟩
        · have h6 : ON w' w2.heap.size (V 6) (nmPut xs (s, f)).1 := hd.1
          simp [Frees, frameOf, go_sem]
          exact ⟨h6, Below.refl _ _, hJ⟩
        · have h7 : V 7 = .bool (nmPut xs (s, f)).2 := by first | exact hd.1 | (simp only [hd])
          simp [Frees, frameOf, go_sem, h7]
          exact ⟨rfl, Below.refl _ _, hJ⟩
      case hend =>
        intro V n w3 hn hJ hφ
        have h8 : ON w3 w2.heap.size (V 8) (nmPut xs (s, f)).1 := hφ 8 (by decide) rfl
        have h9 : V 9 = .bool (nmPut xs (s, f)).2 := hφ 9 (by decide) rfl
        have O3 := Lib.hid h8
        have B3 := Lib.hid (bup B2.out (Nat.le_refl _) hJ)
        have s23 := hJ.size
        clear hφ hJ h8
        simp [frameOf, Act.put, h9]
        clear h9
        generalize V 8 = v3 at O3 ⊢
        go_wp2_with fail
        refine (toNameS_nn _ xs _ _ _ (H.out.below B3.out) hx1).mono ?_
        rintro e w4 ⟨v5, rfl, ⟨o5, n5⟩, c4⟩
        have N5 := Lib.hid n5
        clear n5
        have s34 := c4.size
        have B4 := Lib.hid (bup B3.out (Nat.le_refl _) c4)
        have L5 := Lib.hid o5.lt
        have p3 := O3.out.below c4
        clear c4
        obtain ⟨hb0, hb1⟩ := box_at ((B4.out.block w.heap.size (by simp)).trans (heap_alloc_new _ _))
        go_wp2_with fail
        refine (toName_any _ _ _).mono ?_
        rintro e w4a ⟨rfl, c4a⟩
        have s34a := c4a.size
        have B4a := Lib.hid (bup B4.out (Nat.le_refl _) c4a)
        have o5a := o5.below c4a
        have p3a := p3.below c4a
        clear c4a hb0 hb1 o5 p3
        go_wp2_with fail
        refine (implPutE v5 xs (s, f) HN.out _ _ o5a N5.out hx1).mono ?_
        rintro e w5 ⟨v6, rfl, o6, c5⟩
        have s45 := c5.size
        have B5 := Lib.hid (bup B4a.out (Nat.le_refl _) c5)
        have L6 := Lib.hid o6.lt
        have q3 := p3a.below c5
        have q5 := o5a.below c5
        clear c5 p3a o5a
        have hbb : ((nmPut xs (s, f)).2 != (nmPut xs (s, f)).2) = false := by simp
        go_wp2_with fail
        refine (eqNameS_any v6 v3 (nmPut xs (s, f)).1 _ _ _ _ _ o6.rn q3.rn HL.out).mono ?_
        rintro e w6 ⟨rfl, c6⟩
        have s56 := c6.size
        have B6 := Lib.hid (bup B5.out (Nat.le_refl _) c6)
        have P6 := Lib.hid (And.intro (q3.below c6) (And.intro (q5.below c6) (o6.below c6)))
        clear c6 q3 q5 o6
        go_wp2_with fail
        refine (toNameS_any _ xs _ _ _ (H.out.below B6.out) hx1).mono ?_
        rintro e w7 ⟨v7, rfl, o7, c7⟩
        have s67 := c7.size
        have B7 := Lib.hid (bup B6.out (Nat.le_refl _) c7)
        have P7 := Lib.hid (And.intro (P6.out.1.below c7) (And.intro (P6.out.2.1.below c7) (P6.out.2.2.below c7)))
        clear c7
        go_wp2_with fail
        refine (eqNameS_any v5 v7 xs _ _ _ _ _ P7.out.2.1.rn o7.rn hx1).mono ?_
        rintro e w8 ⟨rfl, c8⟩
        have s78 := c8.size
        have B8 := Lib.hid (bup B7.out (Nat.le_refl _) c8)
        have P8 := Lib.hid (And.intro (P7.out.1.below c8) (And.intro (P7.out.2.1.below c8) (P7.out.2.2.below c8)))
        clear c8 o7
        go_wp2_with fail
        refine (markNameS_any v5 _ _ xs.length 1 w8 P8.out.2.1.1 hx1 (by omega) (by omega)).mono ?_
        rintro e w9 ⟨rfl, o9, c9⟩
        have s89 := c9.size
        have b3z := B3.out.size
        have hl3 := O3.out.lt
        have hneg : decide ((1 : Int) + 2 * (xs.length : Int) < 0) = false := by simp; omega
        have r3 := P8.out.1.chg c9 (fun b _ hb he => by have := L5.out b he; have := hl3 b hb; omega)
        have r6 := P8.out.2.2.chg c9 (fun b hb1 hb he => by have := L5.out b he; have := L6.out b hb; omega)
        have B9 := Lib.hid (B8.out.trans (c9.below B8.out.size (fun k hk he => by have := L5.out k he; omega)))
        clear c9 o9 hl3
        go_wp2_with fail
        refine (eqNameS_any v6 v3 (nmPut xs (s, f)).1 _ _ _ _ _ r6.rn r3.rn HL.out).mono ?_
        rintro e w10 ⟨rfl, c10⟩
        have s910 := c10.size
        have B10 := Lib.hid (bup B9.out (Nat.le_refl _) c10)
        have P10 := Lib.hid (And.intro (r3.below c10) (r6.below c10))
        clear c10 r3 r6
        go_wp2_with fail
        refine (markNameS_any v6 _ _ (nmPut xs (s, f)).1.length 1 w10 P10.out.2.1 HL.out (by omega) (by omega)).mono ?_
        rintro e w11 ⟨rfl, o11, c11⟩
        have s1011 := c11.size
        have hl3 := O3.out.lt
        have r3 := P10.out.1.chg c11 (fun b _ hb he => by have := L6.out b he; have := hl3 b hb; omega)
        have B11 := Lib.hid (B10.out.trans (c11.below B10.out.size (fun k hk he => by have := L6.out k he; omega)))
        have P11 := Lib.hid (And.intro r3 (reads_own o11))
        have hneg2 : decide ((1 : Int) + 2 * ((nmPut xs (s, f)).1.length : Int) < 0) = false := by simp; omega
        have hq : (((1 : Int) + 2 * ((nmPut xs (s, f)).1.length : Int)) != 1 + 2 * ((nmPut xs (s, f)).1.length : Int)) = false := by simp
        clear c11 o11 r3 hl3
        go_wp2_with fail
        refine (heldNameS_any v6 _ _ (nmPut xs (s, f)).1.length 1 w11 P11.out.2 HL.out (by omega) (by omega)).mono ?_
        rintro e w12 ⟨rfl, c12⟩
        have B12 := Lib.hid (bup B11.out (Nat.le_refl _) c12)
        have P12 := Lib.hid (And.intro (P11.out.1.below c12) (P11.out.2.below c12))
        clear c12
        go_wp2_with fail
        refine wp_region_use (fun _ w' => Below w12.heap.size w12 w') (fun _ w w' => Below w.heap.size w w') (ExPhi w12.heap.size xs s f (nmPut xs (s, f)) v) (fun _ => none) (by kernel_rfl) (by kernel_rfl) ?hS ?h0 ?hop ?hend
        case hS => exact fun i j v w w' _ _ hS h => ex_stable hS h
        case h0 => exact (Below.refl _ _).drew
        case hop =>
          intro i o hi V n w' hn hJ hd
          have hi' : i = 0 ∨ i = 1 ∨ i = 2 ∨ i = 3 ∨ i = 4 ∨ i = 5 ∨ i = 6 ∨ i = 7 ∨ i = 8 ∨ i = 9 := by
            have := (List.getElem?_eq_some_iff.1 hi).1
            simp at this
            omega
          have hz := hJ.size
          have HJ := Lib.hid (bup B12.out (Nat.le_refl _) hJ)
          rcases hi' with rfl | rfl | rfl | rfl | rfl | rfl | rfl | rfl | rfl | rfl
          all_goals
            simp at hi
            subst hi
            simp [Region.binds, ExPhi] at hd
          · simp [Frees, frameOf, go_sem]
            exact ⟨rfl, Below.refl _ _, hJ⟩
          · simp [Frees, frameOf, go_sem, hd]
            refine (toNameS_nn _ xs _ _ _ (H.out.below HJ.out) hx1).mono ?_
            rintro e w'' ⟨v', rfl, ⟨o1, o2⟩, c⟩
            exact ⟨v', rfl, ⟨o1.wide hz, o2⟩, c, hJ.trans (c.mono hz)⟩
          · obtain ⟨hb0, hb1⟩ := box_at ((HJ.out.block w.heap.size (by simp)).trans (heap_alloc_new _ _))
            simp [Frees, frameOf, go_sem, hb0, hb1]
            exact ⟨rfl, Below.refl _ _, hJ⟩
          · simp [Frees, frameOf, go_sem, hd]
            refine (toName_any _ _ _).mono ?_
            rintro e w'' ⟨rfl, c⟩
            exact ⟨_, rfl, rfl, c, hJ.trans (c.mono hz)⟩
          · obtain ⟨⟨o1, o2⟩, e3⟩ := hd
            simp [Frees, frameOf, go_sem, e3]
            refine (implPutE (V 1) xs (s, f) HN.out _ _ o1 o2 hx1).mono ?_
            rintro e w'' ⟨r, rfl, o4, c⟩
            exact ⟨_, rfl, ⟨r, rfl, o4.wide hz⟩, c, hJ.trans (c.mono hz)⟩
          · simp [Frees, frameOf, go_sem]
            exact ⟨hd, Below.refl _ _, hJ⟩
          · obtain ⟨r, e5, o5⟩ := hd
            simp [Frees, frameOf, go_sem, e5]
            exact ⟨o5, Below.refl _ _, hJ⟩
          · obtain ⟨r, e5, o5⟩ := hd
            simp [Frees, frameOf, go_sem, e5]
            exact ⟨rfl, Below.refl _ _, hJ⟩
          · have h6 : ON w' w12.heap.size (V 6) (nmPut xs (s, f)).1 := hd.1
            simp [Frees, frameOf, go_sem]
            exact ⟨h6, Below.refl _ _, hJ⟩
          · have h7 : V 7 = .bool (nmPut xs (s, f)).2 := by first | exact hd.1 | (simp only [hd])
            simp [Frees, frameOf, go_sem, h7]
            exact ⟨rfl, Below.refl _ _, hJ⟩
        case hend =>
          intro V n w14 hn hJ hφ
          have h8 : ON w14 w12.heap.size (V 8) (nmPut xs (s, f)).1 := hφ 8 (by decide) rfl
          have h9 : V 9 = .bool (nmPut xs (s, f)).2 := hφ 9 (by decide) rfl
          have P14 := Lib.hid (And.intro (P12.out.1.below hJ) (And.intro (P12.out.2.below hJ) h8))
          have B14 := Lib.hid (bup B12.out (Nat.le_refl _) hJ)
          clear hφ hJ h8
          simp [frameOf, Act.put, h9]
          clear h9
          generalize V 8 = v10 at P14 ⊢
          go_wp2_with fail
          refine (eqNameS_any v10 v3 (nmPut xs (s, f)).1 _ _ _ _ _ P14.out.2.2.rn P14.out.1.rn HL.out).mono ?_
          rintro e w15 ⟨rfl, c15⟩
          have P15 := Lib.hid (P14.out.2.1.below c15)
          have B15 := Lib.hid (bup B14.out (Nat.le_refl _) c15)
          clear c15
          go_wp2_with fail
          refine (heldNameS_any v6 _ _ (nmPut xs (s, f)).1.length 1 w15 P15.out HL.out (by omega) (by omega)).mono ?_
          rintro e w16 ⟨rfl, c16⟩
          have B16 := Lib.hid (bup B15.out (Nat.le_refl _) c16)
          clear c16
          go_wp2_with fail
          all_goals (go_ret; exact ⟨rfl, HB0.out.trans (B16.out.mono (by simp))⟩)
    · have hc := fun W => szName_any s f (1048576 - (nsz xs : Int)) W hs9 (by omega) (by omega)
      simp only [if_neg hsz] at hc
      have HC := Lib.hid hc
      clear hc
      go_enter Try.func9, Try.ntmps9
      go_wp2_with fail
      refine (szN_yes _ xs _ _ _ H.out hx).mono ?_
      rintro e w1 ⟨rfl, b1⟩
      have B1 := Lib.hid b1
      obtain ⟨hb0, hb1⟩ := box_at ((B1.out.block w.heap.size (by simp)).trans (heap_alloc_new _ _))
      clear b1
      go_wp2_with fail
      refine (HC.out _).mono ?_
      rintro e w2 ⟨rfl, b2⟩
      have B2 := Lib.hid (bup B1.out (Nat.le_refl _) b2)
      clear b2 hb0 hb1
      go_wp2_with fail
      all_goals (go_ret; exact ⟨rfl, HB0.out.trans (B2.out.mono (by simp))⟩)
  · go_enter Try.func9, Try.ntmps9
    go_wp2_with fail
    refine (szN_no _ xs _ _ _ H.out hx).mono ?_
    rintro e w1 ⟨rfl, b1⟩
    have B1 := Lib.hid b1
    clear b1
    go_wp2_with fail
    all_goals (go_ret; exact ⟨rfl, HB0.out.trans (B1.out.mono (by simp))⟩)

end Go.Proofs.Ythhganlnljoinaa
