/-
  The walk of the law FnTablePut.
-/
import Derived.Test.YthpcgdkhipcieaaLfTcu
namespace Go.Proofs.Ythpcgdkhipcieaa
open Go.RowKit

theorem tput_tsz (t : List (List Int)) (f p x : Int) (ht : tsz t ≤ 100) : tsz (tput t f p x).1 ≤ 100 := by
  rcases tput_cases t f p x with ⟨-, h | h⟩ | ⟨-, hv, -, -, -, hv2, h⟩
  · rw [h]; exact ht
  · rw [h]; decide
  · rw [h]
    exact tsz_six (tab_len hv2) (fun l hl => by have := (tabVal_iff.1 hv2).2.1 l hl; omega)
theorem implPut_is (v : Value) (t : List (List Int)) (f p x : Int) (lo hi : Nat) (w : World) (h : RT w lo hi v t) (z : List (List Int)) (q : Bool) (hz : tput t f p x = (z, q)) :
    Calls Try.prog 46 #[.agg #[v], .int .i64 f, .int .i64 p, .int .i64 x] w fun e w' => ∃ r, e = .returned (.tuple #[.agg #[r], .bool q]) ∧ OT w' w.heap.size w'.heap.size r z ∧ Below w.heap.size w w' := by
  have c := implPutT_any v t f p x lo hi w h
  unfold PutT at c
  rw [hz] at c
  exact c
theorem implTch_is (va vb : Value) (a b : List (List Int)) (lo hi lo2 hi2 : Nat) (w : World) (h : RT w lo hi va a) (h2 : RT w lo2 hi2 vb b) (hc : tchg a b ≤ 1) :
    Calls Try.prog 24 #[.agg #[va], .agg #[vb]] w fun e w' => ∃ n : Int, e = .returned (.int .i64 n) ∧ n ≤ 1 ∧ Below w.heap.size w w' := by
  refine (implTch_any va vb a b lo hi lo2 hi2 w h h2).mono ?_
  rintro e w' ⟨rfl, b1⟩
  exact ⟨_, rfl, hc, b1⟩
theorem sameTable_is (v v2 : Value) (xs ys : List (List Int)) (lo hi lo2 hi2 : Nat) (w : World) (h : RT w lo hi v xs) (h2 : RT w lo2 hi2 v2 ys) (hx : tsz xs ≤ 1048576) (hy : tsz ys ≤ 1048576) (q : Bool) (hq : sameLL xs ys = q) :
    Calls Try.prog 26 #[.agg #[v], .agg #[v2]] w fun e w' => e = .returned (.bool q) ∧ Below w.heap.size w w' := by
  subst hq
  exact sameTable_any v v2 xs ys lo hi lo2 hi2 w h h2 hx hy

/-- The words of the region that puts back. -/
def TpPhi (L : Nat) (sl slx : Value) (f p y : Int) (t : List (List Int)) (i : Nat) (v : Value) (w : World) : Prop :=
  match i with
  | 0 => v = .agg #[slx]
  | 1 => v = .int .i64 f
  | 2 => v = .int .i64 p
  | 3 => v = .agg #[sl]
  | 4 => v = .int .i64 f
  | 5 => v = .int .i64 p
  | 6 => v = .int .i64 y
  | 7 => ∃ r, v = .tuple #[.agg #[r], .bool true] ∧ OT w L w.heap.size r t
  | 8 => ∃ r, v = .tuple #[.agg #[r], .bool true] ∧ OT w L w.heap.size r t
  | 9 => ∃ r, v = .agg #[r] ∧ OT w L w.heap.size r t
  | 10 => v = .bool true
  | 13 => v = .bool true
  | _ => True
def TpS (j : Nat) (w w' : World) : Prop := if j = 12 then Chg (fun b => ∃ cur fr, w.heap[b]? = some (.cells cur 27 fr)) w w' else Below w.heap.size w w'
theorem tp_ot {w w' : World} {L j : Nat} {r : Value} {t : List (List Int)} (hS : TpS j w w') (h : OT w L w.heap.size r t) : OT w' L w'.heap.size r t := by
  unfold TpS at hS
  split at hS
  · exact (h.chgT hS fun b hb => hb).mono hS.size
  · exact (h.below hS).mono hS.size
theorem tp_stable {L i j : Nat} {sl slx v : Value} {f p y : Int} {t : List (List Int)} {w w' : World} (hS : TpS j w w') (h : TpPhi L sl slx f p y t i v w) : TpPhi L sl slx f p y t i v w' := by
  unfold TpPhi at *
  split at h
  all_goals first
    | exact h
    | (obtain ⟨r, h1, h2⟩ := h; exact ⟨r, h1, tp_ot hS h2⟩)
def TpJ (L : Nat) (t : List (List Int)) (wo : World) (D : Nat → Bool) (V : Nat → Value) (w' : World) : Prop :=
  Below wo.heap.size wo w' ∧ (D 11 = true → ∃ B u, V 11 = .pointer (some ⟨B, 0, none⟩) ∧ L ≤ B ∧ w'.heap[B]? = some (.cells #[u] 27) ∧ (D 12 = true → OT w' L w'.heap.size u t))
theorem tpJ_step {L : Nat} {t : List (List Int)} {wo : World} {D : Nat → Bool} {V : Nat → Value} {v : Value} {w' w'' : World} {i : Nat} (hi : i ≠ 11 ∧ i ≠ 12) (hB : Below w'.heap.size w' w'') (h : TpJ L t wo D V w') :
    TpJ L t wo (fun j => D j || j == i) (fun j => if j = i then v else V j) w'' := by
  obtain ⟨h1, h3⟩ := h
  have e11 : (11 == i) = false := by simpa using fun h => hi.1 h.symm
  have e12 : (12 == i) = false := by simpa using fun h => hi.2 h.symm
  refine ⟨bup2 h1 hB, fun hd => ?_⟩
  simp only [e11, Bool.or_false] at hd
  obtain ⟨B, u, g1, g2, g3, g4⟩ := h3 hd
  refine ⟨B, u, (if_neg (fun h => hi.1 h.symm)).trans g1, g2, box_keep g3 hB, fun h12 => ?_⟩
  simp only [e12, Bool.or_false] at h12
  exact ((g4 h12).below hB).mono hB.size

set_option maxHeartbeats 4000000 in
theorem FnTablePut_walk (w : World) (v : Value) (bs : List Int) (h : RB w 0 w.heap.size v bs) :
    Calls Try.prog 14 #[v] w fun e w' => e = .returned (.bool true) ∧ Below w.heap.size w w' := by
  have HB := Lib.hid h
  obtain ⟨a, cap, b, off, rfl, -⟩ := h.open
  clear h
  by_cases hl : bs.length ≤ 1048576
  · go_enter Try.func14, Try.ntmps14
    go_wp2_with fail
    refine (dTablePut _ _ bs HB.out).mono ?_
    rintro e w1 ⟨v1, t, f, p, z, rfl, ⟨o1, ht⟩, ⟨hf, hp, hz⟩, b1⟩
    obtain ⟨a1, cap1, b1', off1, rfl, -⟩ := o1.open
    have H1 := Lib.hid (tlw_new o1 b1)
    have hxt := tput_tsz t f p z ht
    have HC := Lib.hid (tput_cases t f p z)
    obtain ⟨⟨x, ok⟩, hX⟩ : ∃ q, q = tput t f p z := ⟨_, rfl⟩
    rw [← hX] at hxt
    replace HC := HC.out
    rw [← hX] at HC
    replace HC := Lib.hid HC
    have HX := Lib.hid hX.symm
    simp only at hxt
    clear o1 b1 HB hX
    go_wp2_with fail
    refine (implPut_is _ t f p z _ _ _ H1.out.rt x ok HX.out).mono ?_
    rintro e w2 ⟨v2, rfl, o2, b2⟩
    obtain ⟨a2, cap2, b2', off2, rfl, -⟩ := o2.rt.open
    have H2 := Lib.hid (tl2_new H1.out o2 b2)
    have c2 := H2.out.1.cell
    clear b2 H1 o2
    go_wp2_with fail
    refine (specPutT_any _ t f p z _ _ _ H2.out.1.rt).mono ?_
    unfold PutT
    rw [HX.out]
    rintro e w3 ⟨v3, rfl, o3, b3⟩
    obtain ⟨a3, cap3, b3', off3, rfl, -⟩ := o3.rt.open
    have H3 := Lib.hid (And.intro (H2.out.below (bup2 b3 (balloc _ (.cells #[.slice a3 x.length cap3] 27)))) (tlw_new (o3.rt.wide H2.out.1.bel.size (Nat.le_refl _)) (H2.out.below b3).1.bel))
    have c3 := H3.out.1.2.cell
    have d3 := H3.out.2.cell
    clear b3 H2 o3 c2
    have hbb : (ok != ok) = false := by simp
    go_wp2_with fail
    refine (sameTable_yes _ _ x _ _ _ _ _ H3.out.1.2.rt H3.out.2.rt (by omega)).mono ?_
    rintro e w4 ⟨rfl, b4⟩
    have H4 := Lib.hid (H3.out.1.below b4)
    have c4 := H4.out.1.cell
    have d4 := H4.out.2.cell
    generalize hB2 : w2.heap.size = B2 at H4 d4 ⊢
    clear b4 H3 c3 d3 hbb
    cases ok
    · have hx : x = t ∨ x = [] := by
        rcases HC.out with ⟨-, h⟩ | ⟨h, -⟩
        · exact h
        · cases h
      by_cases hxt2 : x = t
      · have HE := Lib.hid (show sameLL x t = true by simp [sameLL, hxt2])
        clear hx hxt2
        go_wp2_with fail
        refine (sameTable_is _ _ x t _ _ _ _ _ H4.out.2.rt H4.out.1.rt (by omega) (by omega) true HE.out).mono ?_
        rintro e w5 ⟨rfl, b5⟩
        have HF := Lib.hid (H4.out.below b5).1.bel
        clear b5
        go_wp2_with fail
        refine (alive_any _).mono ?_
        rintro e w' ⟨rfl, rfl⟩
        go_wp2_with fail
        all_goals (go_ret; exact ⟨rfl, HF.out⟩)
      · have hx0 : x = [] := hx.resolve_left hxt2
        have HE := Lib.hid (show sameLL x t = false by simp [sameLL, hxt2])
        have HE0 := Lib.hid hx0
        clear hx hxt2 hx0
        go_wp2_with fail
        refine (sameTable_is _ _ x t _ _ _ _ _ H4.out.2.rt H4.out.1.rt (by omega) (by omega) false HE.out).mono ?_
        rintro e w5 ⟨rfl, b5⟩
        have H5 := Lib.hid (H4.out.below b5)
        have d5 := H5.out.2.cell
        clear b5 H4 c4 d4
        go_wp2_with fail
        refine (sameTable_is _ _ x [] _ _ 0 0 _ H5.out.2.rt (rt_nil _ _ _) (by omega) (by decide) true (by rw [HE0.out]; rfl)).mono ?_
        rintro e w6 ⟨rfl, b6⟩
        have HF := Lib.hid (H5.out.below b6).1.bel
        clear b6
        go_wp2_with fail
        refine (alive_any _).mono ?_
        rintro e w' ⟨rfl, rfl⟩
        go_wp2_with fail
        all_goals (go_ret; exact ⟨rfl, HF.out⟩)
    · obtain ⟨hv, ⟨f0, f1⟩, ⟨p0, p1⟩, ⟨z0, z1⟩, hv2, hx⟩ : tabVal t = true ∧ (0 ≤ f ∧ f ≤ 7) ∧ (0 ≤ p ∧ p ≤ 5) ∧ (-1 ≤ z ∧ z ≤ 47) ∧ tabVal (tset t f.toNat p.toNat z) = true ∧ x = tset t f.toNat p.toNat z := by
        rcases HC.out with ⟨h, -⟩ | ⟨-, h⟩
        · cases h
        · exact h
      obtain ⟨f, rfl⟩ := Int.eq_ofNat_of_zero_le f0
      obtain ⟨p, rfl⟩ := Int.eq_ofNat_of_zero_le p0
      simp only [Int.toNat_natCast] at hv2 hx
      rw [← hx] at hv2
      have k1 : tget x f p = z := by rw [hx]; exact tget_set hv (by rw [← hx]; exact hv2) (by omega) (by omega)
      have k2 : tchg t x ≤ 1 := by rw [hx]; exact tchg_set hv (by rw [← hx]; exact hv2) (by omega) (by omega)
      have k3 : tput x f p (tget t f p) = (t, true) := by rw [hx]; exact tput_back hv (by rw [← hx]; exact hv2) (by omega) (by omega)
      have HK := Lib.hid (And.intro hv2 (And.intro k1 (And.intro k2 k3)))
      clear hv hv2 hx k1 k2 k3 HC HX
      go_wp2_with fail
      obtain ⟨wo, hwo⟩ : ∃ wo, wo = w4 := ⟨_, rfl⟩
      rw [← hwo] at H4 c4 d4 ⊢
      clear hwo
      have zB := (Array.getElem?_eq_some_iff.1 H4.out.2.box).1
      refine wp_region_val (TpJ wo.heap.size t wo) TpS (TpPhi wo.heap.size (.slice a1 t.length cap1) (.slice a2 x.length cap2) f p (tget t f p) t) (fun _ => none) (by kernel_rfl) (by kernel_rfl) ?hS ?h0 ?hop ?hend
      case hS => exact fun i j v w w' _ _ hS h => tp_stable hS h
      case h0 => exact ⟨bdrew _, fun h => by cases h⟩
      case hop =>
        intro i o hi V D w' hD hcl hdp hJ hd
        have hi' : i = 0 ∨ i = 1 ∨ i = 2 ∨ i = 3 ∨ i = 4 ∨ i = 5 ∨ i = 6 ∨ i = 7 ∨ i = 8 ∨ i = 9 ∨ i = 10 ∨ i = 11 ∨ i = 12 ∨ i = 13 := by
          have := (List.getElem?_eq_some_iff.1 hi).1
          simp at this
          omega
        have hz := hJ.1.size
        have HW := H4.out.below hJ.1
        rcases hi' with rfl | rfl | rfl | rfl | rfl | rfl | rfl | rfl | rfl | rfl | rfl | rfl | rfl | rfl
        all_goals
          simp at hi
          subst hi
          simp [Region.binds, TpPhi] at hd
        · have y1 := HW.2.cell
          simp [Frees, frameOf, go_sem, y1]
          exact ⟨rfl, Below.refl _ _, tpJ_step (by decide) (Below.refl _ _) hJ⟩
        · simp [Frees, frameOf, go_sem]
          exact ⟨rfl, Below.refl _ _, tpJ_step (by decide) (Below.refl _ _) hJ⟩
        · simp [Frees, frameOf, go_sem]
          exact ⟨rfl, Below.refl _ _, tpJ_step (by decide) (Below.refl _ _) hJ⟩
        · have y1 := HW.1.cell
          simp [Frees, frameOf, go_sem, y1]
          exact ⟨rfl, Below.refl _ _, tpJ_step (by decide) (Below.refl _ _) hJ⟩
        · simp [Frees, frameOf, go_sem]
          exact ⟨rfl, Below.refl _ _, tpJ_step (by decide) (Below.refl _ _) hJ⟩
        · simp [Frees, frameOf, go_sem]
          exact ⟨rfl, Below.refl _ _, tpJ_step (by decide) (Below.refl _ _) hJ⟩
        · obtain ⟨e3, e4, e5⟩ := hd
          simp [Frees, frameOf, go_sem, e3, e4, e5]
          refine (implGet_any _ t f p _ _ _ HW.1.rt).mono ?_
          rintro e w'' ⟨rfl, c⟩
          exact ⟨_, rfl, rfl, c, tpJ_step (by decide) c hJ⟩
        · obtain ⟨e0, e1, e2, e6⟩ := hd
          simp [Frees, frameOf, go_sem, e0, e1, e2, e6]
          refine (implPut_is _ x f p _ _ _ _ HW.2.rt t true HK.out.2.2.2).mono ?_
          rintro e w'' ⟨r, rfl, o, c⟩
          exact ⟨_, rfl, ⟨r, rfl, o.wide hz⟩, c, tpJ_step (by decide) c hJ⟩
        · obtain ⟨r, h1, h2⟩ := hd
          simp [Frees, frameOf, go_sem, h1]
          exact ⟨⟨r, rfl, h2⟩, Below.refl _ _, tpJ_step (by decide) (Below.refl _ _) hJ⟩
        · obtain ⟨r, h1, h2⟩ := hd
          simp [Frees, frameOf, go_sem, h1]
          exact ⟨⟨r, rfl, h2⟩, Below.refl _ _, tpJ_step (by decide) (Below.refl _ _) hJ⟩
        · obtain ⟨r, h1, h2⟩ := hd
          simp [Frees, frameOf, go_sem, h1]
          exact ⟨rfl, Below.refl _ _, tpJ_step (by decide) (Below.refl _ _) hJ⟩
        · have hD12 : D 12 = false := by
            cases hx : D 12 with
            | false => rfl
            | true => exact absurd (hcl 12 hx _ (List.elem_iff.1 (by kernel_rfl))) (by rw [hD]; decide)
          have hB := balloc w' (.cells #[.slice none 0 0] 27)
          simp [Frees, frameOf, go_sem]
          exact ⟨trivial, hB, bup2 hJ.1 hB, fun _ => ⟨w'.heap.size, _, rfl, hz, heap_alloc_new w' _, fun h => by simp [hD12] at h⟩⟩
        · simp [Region.binds] at hdp
          obtain ⟨B, u, b1, b2, b3, -⟩ := hJ.2 hdp.1
          obtain ⟨⟨r, e9, o9⟩, -⟩ := hd
          obtain ⟨a9, c9, b9, f9, rfl, -⟩ := o9.rt.open
          obtain ⟨d1, d2⟩ := one_at b3
          have hc : Chg (fun b => ∃ cur fr, w'.heap[b]? = some (.cells cur 27 fr)) w' (w'.setCell ⟨B, 0, none⟩ (.slice a9 t.length c9)) := Chg.setCell (S := fun b => ∃ cur fr, w'.heap[b]? = some (.cells cur 27 fr)) (Chg.refl _ w') (p := ⟨B, 0, none⟩) (.inr ⟨_, _, b3⟩) _
          have hJ3 : TpJ wo.heap.size t wo (fun j => D j || j == 12) (fun j => if j = 12 then undef else V j) (w'.setCell ⟨B, 0, none⟩ (.slice a9 t.length c9)) :=
            ⟨hJ.1.setCell b2 _, fun _ => ⟨B, _, by simpa using b1, b2, box_set b3 _, fun _ => (o9.chgT hc fun b hb => hb).mono hc.size⟩⟩
          simp [Frees, frameOf, go_sem, b1, e9, d1, d2]
          exact ⟨trivial, hc, hJ3⟩
        · have h10 := hd.1
          simp [Frees, frameOf, go_sem, h10]
          exact ⟨rfl, Below.refl _ _, tpJ_step (by decide) (Below.refl _ _) hJ⟩
      case hend =>
        intro V D w5 hD hJ hφ
        obtain ⟨B, u, b1, b2, b3, b4⟩ := hJ.2 (hD 11 (by decide))
        have o9 := b4 (hD 12 (by decide))
        obtain ⟨a9, c9, b9, f9, rfl, -⟩ := o9.rt.open
        have e13 := hφ 13 (by decide) rfl
        simp only [TpPhi] at e13
        have H5 := Lib.hid (And.intro (H4.out.below hJ.1) (⟨o9.rt.wide (by have := H4.out.1.bel.size; omega) (Nat.le_refl _), b3, (H4.out.below hJ.1).1.bel⟩ : TLw w B (.slice a9 t.length c9) t w5))
        have c5 := H5.out.1.2.cell
        clear hφ hJ o9 b3 b4 H4 c4 d4
        simp [frameOf, Act.put, b1, e13]
        go_wp2_with fail
        refine (implTbv_yes _ x _ _ _ H5.out.1.2.rt HK.out.1).mono ?_
        rintro e w6 ⟨rfl, b6⟩
        replace H5 := Lib.hid (And.intro (H5.out.1.below b6) (H5.out.2.below b6))
        have c6 := H5.out.1.2.cell
        clear b6 c5
        go_wp2_with fail
        refine (implGet_is _ x f p _ _ _ H5.out.1.2.rt z HK.out.2.1).mono ?_
        rintro e w7 ⟨rfl, b7⟩
        replace H5 := Lib.hid (And.intro (H5.out.1.below b7) (H5.out.2.below b7))
        have c7 := H5.out.1.2.cell
        have d7 := H5.out.1.1.cell
        clear b7 c6
        go_wp2_with fail
        refine (implTch_is _ _ t x _ _ _ _ _ H5.out.1.1.rt H5.out.1.2.rt HK.out.2.2.1).mono ?_
        rintro e w8 ⟨nn, rfl, hnn, b8⟩
        replace H5 := Lib.hid (And.intro (H5.out.1.below b8) (H5.out.2.below b8))
        have c8 := H5.out.2.cell
        have d8 := H5.out.1.1.cell
        clear b8 c7 d7
        go_wp2_with fail
        refine (sameTable_yes _ _ t _ _ _ _ _ H5.out.2.rt H5.out.1.1.rt (by omega)).mono ?_
        rintro e w9 ⟨rfl, b9⟩
        have HF := Lib.hid (H5.out.2.below b9).bel
        clear b9
        go_wp2_with fail
        all_goals (go_ret; exact ⟨rfl, HF.out⟩)
  · go_enter Try.func14, Try.ntmps14
    go_wp2_with fail
    all_goals (go_ret; exact ⟨rfl, Below.refl _ _⟩)

end Go.Proofs.Ythpcgdkhipcieaa
