/-
  The walk of the law FnTableChanges.
-/
import Derived.Test.YthpcgdkhipcieaaTlw
import Derived.Test.YthpcgdkhipcieaaTbe
namespace Go.Proofs.Ythpcgdkhipcieaa
open Go.RowKit

set_option maxHeartbeats 2000000 in
theorem FnTableChanges_walk (w : World) (v : Value) (bs : List Int) (h : RB w 0 w.heap.size v bs) :
    Calls Try.prog 6 #[v] w fun e w' => e = .returned (.bool true) ∧ Below w.heap.size w w' := by
  have HB := Lib.hid h
  obtain ⟨a, cap, b, off, rfl, -⟩ := h.open
  clear h
  by_cases hl : bs.length ≤ 1048576
  · go_enter Try.func6, Try.ntmps6
    go_wp2_with fail
    refine (dTableChanges _ _ bs HB.out).mono ?_
    rintro e w1 ⟨v1, t, v2, u, rfl, ⟨o1, ht⟩, ⟨o2, hu⟩, b1⟩
    obtain ⟨a1, cap1, b1', off1, rfl, -⟩ := o1.open
    obtain ⟨a2, cap2, b2', off2, rfl, -⟩ := o2.open
    have hb1 := balloc w1 (.cells #[.slice a1 t.length cap1] 27)
    have hb2 := balloc (w1.alloc (.cells #[.slice a1 t.length cap1] 27)) (.cells #[.slice a2 u.length cap2] 27)
    have e1 : (w1.alloc (.cells #[.slice a1 t.length cap1] 27)).heap.size = w1.heap.size + 1 := by simp
    have ha := (tlw_new o1 b1).below hb2
    have hb := tlw_new ((o2.below hb1).wide (Nat.le_refl _) hb1.size) (bup2 b1 hb1)
    rw [e1] at hb
    have H1 := Lib.hid (And.intro ha hb)
    clear o1 o2 b1 hb1 hb2 ha hb HB
    go_wp2_with fail
    refine (implTch_any _ _ t u _ _ _ _ _ H1.out.1.rt H1.out.2.rt).mono ?_
    rintro e w2 ⟨rfl, b2⟩
    have H2 := Lib.hid (And.intro (H1.out.1.below b2) (H1.out.2.below b2))
    have c2 := H2.out.1.cell
    have d2 := H2.out.2.cell
    obtain ⟨n, hN⟩ : ∃ n, n = tchg t u := ⟨_, rfl⟩
    rw [← hN]
    have HN := Lib.hid hN
    clear b2 H1 hN
    go_wp2_with fail
    refine (specTch_any _ _ t u _ _ _ _ _ H2.out.1.rt H2.out.2.rt).mono ?_
    rintro e w3 ⟨rfl, b3⟩
    have H3 := Lib.hid (And.intro (H2.out.1.below b3) (H2.out.2.below b3))
    have c3 := H3.out.1.cell
    have d3 := H3.out.2.cell
    rw [← HN.out]
    clear b3 H2 c2 d2
    go_wp2_with fail
    refine (implTch_any _ _ u t _ _ _ _ _ H3.out.2.rt H3.out.1.rt).mono ?_
    rintro e w4 ⟨rfl, b4⟩
    have H4 := Lib.hid (And.intro (H3.out.1.below b4) (H3.out.2.below b4))
    have c4 := H4.out.1.cell
    have d4 := H4.out.2.cell
    rw [tchg_comm u t, ← HN.out]
    clear b4 H3 c3 d3
    by_cases hn : n < 0
    · obtain rfl : n = -1 := by have := HN.out; have := tchg_ge t u; omega
      have HF := Lib.hid H4.out.1.bel
      clear hn
      go_wp2_with fail
      refine (alive_any _).mono ?_
      rintro e w' ⟨rfl, rfl⟩
      go_wp2_with fail
      all_goals (go_ret; exact ⟨rfl, HF.out⟩)
    · have hv := tchg_val (a := t) (b := u) (by rw [← HN.out]; exact hn)
      have HV := Lib.hid (And.intro hv (tchg_zero hv.1 hv.2))
      have hn0 : 0 ≤ n := by omega
      clear hn hv
      go_wp2_with fail
      refine (sameTable_any _ _ t u _ _ _ _ _ H4.out.1.rt H4.out.2.rt (by omega) (by omega)).mono ?_
      rintro e w5 ⟨rfl, b5⟩
      have H5 := Lib.hid (H4.out.1.below b5)
      have c5 := H5.out.cell
      have e5 : sameLL t u = (n == 0) := by rw [HN.out]; exact HV.out.2.symm
      rw [e5]
      obtain ⟨q, hq⟩ : ∃ q, q = (n == 0) := ⟨_, rfl⟩
      rw [← hq]
      have hq2 : (n == 0) = q := hq.symm
      have hqq : (q == q) = true := by simp
      clear b5 H4 c4 d4 e5 hq
      go_wp2_with fail
      refine (implTch_any _ _ t t _ _ _ _ _ H5.out.rt H5.out.rt).mono ?_
      rintro e w6 ⟨rfl, b6⟩
      have HF := Lib.hid (H5.out.below b6).bel
      rw [tchg_self HV.out.1.1]
      clear b6
      go_wp2_with fail
      all_goals (go_ret; exact ⟨rfl, HF.out⟩)
  · go_enter Try.func6, Try.ntmps6
    go_wp2_with fail
    all_goals (go_ret; exact ⟨rfl, Below.refl _ _⟩)

end Go.Proofs.Ythpcgdkhipcieaa
