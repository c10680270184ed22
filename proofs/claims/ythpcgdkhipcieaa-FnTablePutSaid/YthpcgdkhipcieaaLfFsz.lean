/-
  The walk of the law FnFileSize.
-/
import Derived.Test.YthpcgdkhipcieaaTlw
import Derived.Test.YthpcgdkhipcieaaTbe
namespace Go.Proofs.Ythpcgdkhipcieaa
open Go.RowKit

theorem implGet_is (v : Value) (t : List (List Int)) (f p : Int) (lo hi : Nat) (w : World) (h : RT w lo hi v t) (x : Int) (hx : tget t f p = x) :
    Calls Try.prog 22 #[.agg #[v], .int .i64 f, .int .i64 p] w fun e w' => e = .returned (.int .i64 x) ∧ Below w.heap.size w w' := by
  subst hx
  exact implGet_any v t f p lo hi w h

set_option maxHeartbeats 2000000 in
theorem FnFileSize_walk (w : World) (v : Value) (bs : List Int) (h : RB w 0 w.heap.size v bs) :
    Calls Try.prog 4 #[v] w fun e w' => e = .returned (.bool true) ∧ Below w.heap.size w w' := by
  have HB := Lib.hid h
  obtain ⟨a, cap, b, off, rfl, -⟩ := h.open
  clear h
  by_cases hl : bs.length ≤ 1048576
  · go_enter Try.func4, Try.ntmps4
    go_wp2_with fail
    refine (dFileSize _ _ bs HB.out).mono ?_
    rintro e w1 ⟨v1, t, f, rfl, ⟨o1, ht⟩, hf, b1⟩
    obtain ⟨a1, cap1, b1', off1, rfl, -⟩ := o1.open
    have H1 := Lib.hid (tlw_new o1 b1)
    clear o1 b1 HB
    go_wp2_with fail
    refine (implFsz_any _ t f _ _ _ H1.out.rt).mono ?_
    rintro e w2 ⟨rfl, b2⟩
    have H2 := Lib.hid (H1.out.below b2)
    have d2 := H2.out.cell
    obtain ⟨n, hN⟩ : ∃ n, n = fsz t f := ⟨_, rfl⟩
    rw [← hN]
    have HN := Lib.hid hN
    clear b2 H1 hN
    go_wp2_with fail
    refine (specFsz_any _ t f _ _ _ H2.out.rt).mono ?_
    rintro e w3 ⟨rfl, b3⟩
    have H3 := Lib.hid (H2.out.below b3)
    have d3 := H3.out.cell
    rw [← HN.out]
    clear b3 H2 d2
    by_cases hn : n < 0
    · obtain rfl : n = -1 := by have := HN.out; have := fsz_ge t f; omega
      have HF := Lib.hid H3.out.bel
      clear hn
      go_wp2_with fail
      refine (alive_any _).mono ?_
      rintro e w' ⟨rfl, rfl⟩
      go_wp2_with fail
      all_goals (go_ret; exact ⟨rfl, HF.out⟩)
    · obtain ⟨hv, f0, f1⟩ := fsz_ok (t := t) (f := f) (by rw [← HN.out]; exact hn)
      obtain ⟨f, rfl⟩ := Int.eq_ofNat_of_zero_le f0
      obtain ⟨m, g1, g2, g3, g4⟩ := fsz_nat hv (f := f) (by omega)
      obtain rfl : n = m := HN.out.trans g1
      have G := Lib.hid (And.intro g3 g4)
      clear g3 g4 g1 hn HN hv
      go_wp2_with fail
      go_loopw [6] (fun i wr => ∃ k : Nat, m ≤ k ∧ k ≤ 6 ∧ i = .int .i64 k ∧ TLw w w1.heap.size (.slice a1 t.length cap1) t wr) (fun i _ => 6 - (intOf i).toNat)
      case atStart => exact ⟨m, Nat.le_refl _, g2, rfl, H3.out⟩
      case round =>
        obtain ⟨k, k0, k1, rfl, hR⟩ := hrel
        have HR := Lib.hid hR
        have c1 := hR.cell
        clear hR H3 d3
        by_cases hk : k < 6
        · have hk5 : (k : Int) ≤ 5 := by omega
          go_wp2_with fail
          refine (implGet_is _ t f k _ _ _ HR.out.rt (-1) (G.out.1 k k0 hk)).mono ?_
          rintro e w5 ⟨rfl, b5⟩
          have HF := Lib.hid (HR.out.below b5)
          clear b5 HR c1
          go_wp2_with fail
          go_roundw
          case rel => exact ⟨k + 1, by omega, by omega, by go_num, HF.out⟩
          case measure => simp [intOf]; omega
        · have hk5 : ¬ (k : Int) ≤ 5 := by omega
          by_cases hm : m = 0
          · subst hm
            have HF := Lib.hid HR.out.bel
            go_wp2_with fail
            all_goals (go_ret; exact ⟨rfl, HF.out⟩)
          · have hm0 : ((m : Int) == 0) = false := by simp; omega
            have hx := G.out.2 (by omega)
            have em : ((m - 1 : Nat) : Int) = (m : Int) - 1 := by omega
            rw [em] at hx
            have HX := Lib.hid hx
            clear hx em
            go_wp2_with fail
            refine (implGet_any _ t f (m - 1) _ _ _ HR.out.rt).mono ?_
            rintro e w5 ⟨rfl, b5⟩
            have HF := Lib.hid (HR.out.below b5).bel
            have hx := HX.out
            generalize tget t f (m - 1) = x at hx ⊢
            clear b5 HR HX c1
            go_wp2_with fail
            all_goals (go_ret; exact ⟨rfl, HF.out⟩)
  · go_enter Try.func4, Try.ntmps4
    go_wp2_with fail
    all_goals (go_ret; exact ⟨rfl, Below.refl _ _⟩)

end Go.Proofs.Ythpcgdkhipcieaa
