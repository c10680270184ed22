/-
  The walk of the law FnCutFile.
-/
import Derived.Test.YthpcgdkhipcieaaLfFsz
import Derived.Test.YthpcgdkhipcieaaLfTbv
import Derived.Test.YthpcgdkhipcieaaLwCut
namespace Go.Proofs.Ythpcgdkhipcieaa
open Go.RowKit

theorem sameTable_yes (v v2 : Value) (xs : List (List Int)) (lo hi lo2 hi2 : Nat) (w : World) (h : RT w lo hi v xs) (h2 : RT w lo2 hi2 v2 xs) (hx : tsz xs ≤ 1048576) :
    Calls Try.prog 26 #[.agg #[v], .agg #[v2]] w fun e w' => e = .returned (.bool true) ∧ Below w.heap.size w w' := by
  have c := sameTable_any v v2 xs xs lo hi lo2 hi2 w h h2 hx hx
  rw [show sameLL xs xs = true from by simp [sameLL]] at c
  exact c
theorem fsz_cut {t : List (List Int)} {f p : Nat} (hv : tabVal t = true) (hf : f < 8) (hp : p ≤ 6) : fsz (tcut t f p) f ≤ p := by
  have h8 := tab_len hv
  obtain ⟨m, g1, g2, g3, g4⟩ := fsz_nat (tcut_val hv (f := f) (p := p) (by omega) hp) hf
  rw [g1]
  by_cases hm : m ≤ p
  · omega
  · exfalso
    have := g4 (by omega)
    rw [tget_cut hv hf hp hf (show m - 1 < 6 by omega), if_pos ⟨rfl, by omega⟩] at this
    omega
/-- Two tables in two boxes. -/
def TL2 (w0 : World) (B : Nat) (sl : Value) (t : List (List Int)) (B2 : Nat) (sl2 : Value) (t2 : List (List Int)) (w : World) : Prop := TLw w0 B sl t w ∧ TLw w0 B2 sl2 t2 w
theorem TL2.below {w0 w w' : World} {B B2 : Nat} {sl sl2 : Value} {t t2 : List (List Int)} (h : TL2 w0 B sl t B2 sl2 t2 w) (b : Below w.heap.size w w') : TL2 w0 B sl t B2 sl2 t2 w' := ⟨h.1.below b, h.2.below b⟩
theorem tl2_new {w0 w1 w2 : World} {B : Nat} {sl v : Value} {t x : List (List Int)} (h : TLw w0 B sl t w1) (o : OT w2 w1.heap.size w2.heap.size v x) (b : Below w1.heap.size w1 w2) : TL2 w0 B sl t w2.heap.size v x (w2.alloc (.cells #[v] 27)) :=
  ⟨(h.below b).below (balloc _ _), tlw_new (o.rt.wide h.bel.size (Nat.le_refl _)) (h.below b).bel⟩

set_option maxHeartbeats 4000000 in
theorem FnCutFile_walk (w : World) (v : Value) (bs : List Int) (h : RB w 0 w.heap.size v bs) :
    Calls Try.prog 12 #[v] w fun e w' => e = .returned (.bool true) ∧ Below w.heap.size w w' := by
  have HB := Lib.hid h
  obtain ⟨a, cap, b, off, rfl, -⟩ := h.open
  clear h
  by_cases hl : bs.length ≤ 1048576
  · go_enter Try.func12, Try.ntmps12
    go_wp2_with fail
    refine (dCutFile _ _ bs HB.out).mono ?_
    rintro e w1 ⟨v1, t, f, p, rfl, ⟨o1, ht⟩, ⟨hf, hp⟩, b1⟩
    obtain ⟨a1, cap1, b1', off1, rfl, -⟩ := o1.open
    have H1 := Lib.hid (tlw_new o1 b1)
    clear o1 b1 HB
    go_wp2_with fail
    refine (implCut_any _ t f p _ _ _ H1.out.rt).mono ?_
    rintro e w2 ⟨v2, rfl, o2, b2⟩
    have hsz := tcut_tsz t f p
    have HOK := Lib.hid (And.intro (@tcut_ok t f p) (@tcut_bad t f p))
    obtain ⟨x, hX⟩ : ∃ x, x = tcut t f p := ⟨_, rfl⟩
    rw [← hX] at o2 hsz
    have HX := Lib.hid hX
    obtain ⟨a2, cap2, b2', off2, rfl, -⟩ := o2.rt.open
    have H2 := Lib.hid (tl2_new H1.out o2 b2)
    clear b2 H1 o2 hX
    go_wp2_with fail
    generalize hB2 : w2.heap.size = B2 at H2 ⊢
    generalize w2.alloc (.cells #[.slice a2 x.length cap2] 27) = wo at H2 ⊢
    have HD := Lib.hid (H2.out.below (bdrew wo))
    have hb0 := H2.out.1.cell
    have hb4 := H2.out.2.cell
    go_region_held3 (fun w' => w'.cell? ⟨w1.heap.size, 0, none⟩ = some (.slice a1 t.length cap1) ∧ w'.cell? ⟨B2, 0, none⟩ = some (.slice a2 x.length cap2))
      (first | exact ⟨hb0, hb4⟩ | exact ⟨cell_later (w := wo.drew) (by assumption) hb0, cell_later (w := wo.drew) (by assumption) hb4⟩ | exact ⟨cell_later (w := wo.drew) (bup2 (b := wa) (by assumption) (by assumption)) hb0, cell_later (w := wo.drew) (bup2 (b := wa) (by assumption) (by assumption)) hb4⟩)
      (first | (go_at_call 42; refine (specCut_any _ t f p _ _ _ HD.out.1.rt).mono ?_; rw [← HX.out]; rintro e wa ⟨va, rfl, oa, ca⟩)
             | (go_at_call 26; refine (sameTable_yes _ _ x _ _ _ _ _ (HD.out.2.below (by assumption)).rt (OT.rt (by assumption)) (by omega)).mono ?_; rintro e wb ⟨rfl, cb⟩))
    have ca' : Below wo.drew.heap.size wo.drew wa := by assumption
    have cb' : Below wa.heap.size wa wb := by assumption
    have H3 := Lib.hid (HD.out.below (bup2 ca' cb'))
    have d3 := H3.out.2.cell
    clear ca' cb' HD H2 hb0 hb4
    go_wp2_with fail
    refine (implTbv_any _ x _ _ _ H3.out.2.rt).mono ?_
    rintro e w4 ⟨rfl, b4⟩
    have H4 := Lib.hid (H3.out.below b4)
    have d4 := H4.out.2.cell
    clear b4 H3 d3
    cases hv : tabVal x
    · have he : x = [] := by rw [HX.out]; exact HOK.out.2 (by rw [← HX.out]; exact hv)
      clear hv HX
      subst he
      simp only [List.length_nil] at *
      go_wp2_with fail
      refine (sameTable_yes _ _ [] _ _ 0 0 _ H4.out.2.rt (rt_nil _ _ _) (by decide)).mono ?_
      rintro e w5 ⟨rfl, b5⟩
      have HF := Lib.hid (H4.out.below b5).1.bel
      clear b5
      go_wp2_with fail
      refine (alive_any _).mono ?_
      rintro e w' ⟨rfl, rfl⟩
      go_wp2_with fail
      all_goals (go_ret; exact ⟨rfl, HF.out⟩)
    · obtain ⟨hvt, ⟨f0, f1⟩, p0, p1⟩ := HOK.out.1 (by rw [← HX.out]; exact hv)
      obtain ⟨f, rfl⟩ := Int.eq_ofNat_of_zero_le f0
      obtain ⟨p, rfl⟩ := Int.eq_ofNat_of_zero_le p0
      have HV := Lib.hid hvt
      clear hv hvt
      go_wp2_with fail
      go_loopw [7, 8, 9] (fun i _ _ wr => ∃ r : Nat, r ≤ 8 ∧ i = .int .i64 r ∧ TL2 w w1.heap.size (.slice a1 t.length cap1) t B2 (.slice a2 x.length cap2) x wr) (fun i _ _ _ => 8 - (intOf i).toNat)
      case atStart => exact ⟨0, by omega, rfl, H4.out⟩
      case round =>
        obtain ⟨r, hr, rfl, hR⟩ := hrel
        obtain ⟨wq, rfl⟩ : ∃ wq : World, wq = wr := ⟨_, rfl⟩
        have HR := Lib.hid hR
        have c1 := hR.1.cell
        have c2 := hR.2.cell
        clear hR H4 d4
        by_cases hr8 : r < 8
        · have hr8' : decide ((r : Int) < 8) = true := by simp; omega
          clear c1 c2
          go_wp2_with fail
          go_loopw [8, 9] (fun i _ wr => ∃ k : Nat, k ≤ 6 ∧ i = .int .i64 k ∧ TL2 w w1.heap.size (.slice a1 t.length cap1) t B2 (.slice a2 x.length cap2) x wr) (fun i _ _ => 6 - (intOf i).toNat)
          case atStart => exact ⟨0, by omega, rfl, HR.out⟩
          case round =>
            obtain ⟨k, hk, rfl, hR⟩ := hrel
            have HQ := Lib.hid hR
            have c1 := hR.1.cell
            clear hR HR
            by_cases hk6 : k < 6
            · have hk5 : decide ((k : Int) ≤ 5) = true := by simp; omega
              have hcut := tget_cut HV.out (f := f) (p := p) (r := r) (k := k) (by omega) (by omega) hr8 hk6
              rw [← HX.out] at hcut
              go_wp2_with fail
              refine (implGet_any _ t r k _ _ _ HQ.out.1.rt).mono ?_
              rintro e w5 ⟨rfl, b5⟩
              have H5 := Lib.hid (HQ.out.below b5)
              have c5 := H5.out.2.cell
              generalize tget t r k = y at hcut ⊢
              have HC := Lib.hid hcut
              clear b5 HQ c1 hcut
              by_cases hrf : r = f
              · subst hrf
                have hbb : ((r : Int) == (r : Int)) = true := by simp
                by_cases hkp : p ≤ k
                · have hc : (p : Int) ≤ (k : Int) := by omega
                  go_wp2_with fail
                  refine (implGet_is _ x r k _ _ _ H5.out.2.rt (-1) (HC.out.trans (by simp [hkp]))).mono ?_
                  rintro e w6 ⟨rfl, b6⟩
                  have H6 := Lib.hid (H5.out.below b6)
                  clear b6 H5 c5
                  go_wp2_with fail
                  go_roundw
                  case rel => exact ⟨k + 1, by omega, by go_num, H6.out⟩
                  case measure => simp [intOf]; omega
                · have hc : ¬ (p : Int) ≤ (k : Int) := by omega
                  go_wp2_with fail
                  refine (implGet_is _ x r k _ _ _ H5.out.2.rt y (HC.out.trans (by simp; omega))).mono ?_
                  rintro e w6 ⟨rfl, b6⟩
                  have H6 := Lib.hid (H5.out.below b6)
                  clear b6 H5 c5
                  go_wp2_with fail
                  go_roundw
                  case rel => exact ⟨k + 1, by omega, by go_num, H6.out⟩
                  case measure => simp [intOf]; omega
              · have hbb : ((r : Int) == (f : Int)) = false := by simp; omega
                go_wp2_with fail
                refine (implGet_is _ x r k _ _ _ H5.out.2.rt y (by rw [HC.out, if_neg fun h => hrf h.1])).mono ?_
                rintro e w6 ⟨rfl, b6⟩
                have H6 := Lib.hid (H5.out.below b6)
                clear b6 H5 c5
                go_wp2_with fail
                go_roundw
                case rel => exact ⟨k + 1, by omega, by go_num, H6.out⟩
                case measure => simp [intOf]; omega
            · have hk5 : decide ((k : Int) ≤ 5) = false := by simp; omega
              clear c1
              go_wp2_with fail
              go_roundw
              case rel => exact ⟨r + 1, by omega, by go_num, HQ.out⟩
              case measure => simp [intOf]; omega
        · have hr8' : decide ((r : Int) < 8) = false := by simp; omega
          have hfz := fsz_cut HV.out (f := f) (p := p) (by omega) (by omega)
          rw [← HX.out] at hfz
          have HZ := Lib.hid hfz
          clear hfz
          go_wp2_with fail
          refine (implFsz_any _ x f _ _ _ HR.out.2.rt).mono ?_
          rintro e w5 ⟨rfl, b5⟩
          have HF := Lib.hid (HR.out.below b5).1.bel
          have hz := HZ.out
          generalize fsz x f = y at hz ⊢
          clear b5 HR c1 c2
          go_wp2_with fail
          all_goals (go_ret; exact ⟨rfl, HF.out⟩)
  · go_enter Try.func12, Try.ntmps12
    go_wp2_with fail
    all_goals (go_ret; exact ⟨rfl, Below.refl _ _⟩)

end Go.Proofs.Ythpcgdkhipcieaa
