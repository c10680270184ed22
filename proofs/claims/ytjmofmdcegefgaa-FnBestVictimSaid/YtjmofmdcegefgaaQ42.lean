/-
  Texts of this claim, laid together: LfBv.
-/
import Derived.Test.YtjmofmdcegefgaaQ39
import Derived.Test.YtjmofmdcegefgaaQ40
import Derived.Test.YtjmofmdcegefgaaQ41
namespace Go.Proofs.Ytjmofmdcegefgaa
open Go.RowKit
set_option linter.unusedSimpArgs false
set_option linter.unusedVariables false
set_option linter.unnecessarySimpa false

theorem implBv_is (v tv : Value) (d : List Bk) (t : List (List Int)) (x y z : Int) (now : Int) (lo hi lo2 hi2 : Nat) (w : World) (hd : RD w lo hi v d) (h2 : RT w lo2 hi2 tv t) (hh : HdI ⟨x, y, z⟩) (hnow : I64 now) (n : Int) (hn : n = bv d t ⟨x, y, z⟩ now) :
    Calls Try.prog 21 #[v, .agg #[tv], .agg #[.int .i64 x, .int .i64 y, .int .i64 z], .int .i64 now] w fun e w' => e = .returned (.int .i64 n) ∧ Below w.heap.size w w' := by
  subst hn
  exact implBv_any v tv d t ⟨x, y, z⟩ now lo hi lo2 hi2 w hd h2 hh hnow
theorem specBv_is (v tv : Value) (d : List Bk) (t : List (List Int)) (x y z : Int) (now : Int) (lo hi lo2 hi2 : Nat) (w : World) (hd : RD w lo hi v d) (h2 : RT w lo2 hi2 tv t) (hh : HdI ⟨x, y, z⟩) (hdl : d.length ≤ 1048576) (hnow : I64 now) (n : Int) (hn : n = bv d t ⟨x, y, z⟩ now) :
    Calls Try.prog 22 #[v, .agg #[tv], .agg #[.int .i64 x, .int .i64 y, .int .i64 z], .int .i64 now] w fun e w' => e = .returned (.int .i64 n) ∧ Below w.heap.size w w' := by
  subst hn
  exact specBv_any v tv d t ⟨x, y, z⟩ now lo hi lo2 hi2 w hd h2 hh hdl

set_option maxHeartbeats 8000000 in
set_option maxRecDepth 4000 in
theorem FnBestVictim_walk (w : World) (v : Value) (bs : List Int) (h : RB w 0 w.heap.size v bs) :
    Calls Try.prog 5 #[v] w fun e w' => e = .returned (.bool true) ∧ Below w.heap.size w w' := by
  have HB := Lib.hid h
  obtain ⟨a, cap, b, off, rfl, -⟩ := h.open
  clear h
  by_cases hl : bs.length ≤ 1048576
  · go_enter Try.func5, Try.ntmps5
    go_wp2_with fail
    refine (dBestVictim _ _ bs HB.out).mono ?_
    rintro e w1 ⟨v1, d, v2, t, ⟨A, B, C⟩, now, rfl, hrd, hsm, hrt, hhi, hnow, b1⟩
    obtain ⟨a1, cap1, b1', off1, rfl, -, -, q3, -⟩ := hrd.open
    obtain ⟨a2, cap2, b2', off2, rfl, -⟩ := hrt.open
    have H1 := Lib.hid (lvh_new (h := ⟨A, B, C⟩) hrd hrt b1)
    have HHI := Lib.hid hhi
    have HNOW := Lib.hid hnow
    have hdl := hsm.1
    obtain ⟨n, hn⟩ : ∃ n, n = bv d t ⟨A, B, C⟩ now := ⟨_, rfl⟩
    have HN := Lib.hid hn
    obtain ⟨g, hg⟩ : ∃ g, g = gv d t ⟨A, B, C⟩ := ⟨_, rfl⟩
    have HG := Lib.hid hg
    unfold hbox at H1
    unfold hdv
    simp only at H1 ⊢
    clear hrd hrt b1 hsm HB hn hg hhi hnow
    go_wp2_with fail
    refine (implBv_is _ _ d t A B C now _ _ _ _ _ H1.out.s.rd H1.out.s.rt HHI.out HNOW.out n HN.out).mono ?_
    rintro e w2 ⟨rfl, b2⟩
    have H2 := Lib.hid (H1.out.below b2)
    obtain ⟨d1, d2, d3, d4⟩ := H2.out.cells
    clear b2 H1
    go_wp2_with fail
    refine (specBv_is _ _ d t A B C now _ _ _ _ _ H2.out.s.rd H2.out.s.rt HHI.out (by omega) HNOW.out n HN.out).mono ?_
    rintro e w3 ⟨rfl, b3⟩
    have H3 := Lib.hid (H2.out.below b3)
    clear b3 H2 d1 d2 d3 d4
    by_cases hin : 0 ≤ now ∧ now ≤ 1000000
    · have hn0 : decide (now < 0) = false := by simpa using hin.1
      have hn1 : decide (1000000 < now) = false := by simpa using hin.2
      obtain ⟨d1, d2, d3, d4⟩ := H3.out.cells
      have hc := bv_cases (d := d) (t := t) (h := ⟨A, B, C⟩) hin.1 hin.2
      rw [← HN.out, ← HG.out] at hc
      have HC := Lib.hid hc
      clear hin hc
      rcases HC.out with ⟨e1, e2⟩ | ⟨m, hm, e1, e2, e3, e4, e5, e6⟩
      · subst e1 e2
        clear HC HN
        go_wp2_with fail
        refine (implGv_is _ _ d t A B C _ _ _ _ _ H3.out.s.rd H3.out.s.rt HHI.out (-1) HG.out).mono ?_
        rintro e w4 ⟨rfl, b4⟩
        have HF := Lib.hid (H3.out.below b4).s.bel
        clear b4 H3 d1 d2 d3 d4
        go_wp2_with fail
        refine (alive_any _).mono ?_
        rintro e w' ⟨rfl, rfl⟩
        go_wp2_with fail
        all_goals (go_ret; exact ⟨rfl, HF.out⟩)
      · subst e1
        have g0 : decide (0 ≤ g) = true := by simpa using e2
        have f3 : ((m : Int) != A) = true := by simpa using e4
        have f4 : ((m : Int) != B) = true := by simpa using e5
        have f5 : ((m : Int) != C) = true := by simpa using e6
        have f6 : decide ((d.length : Int) ≤ (m : Int)) = false := by simp; omega
        have f7 : decide ((m : Int) < 0) = false := by simp
        have HE3 := Lib.hid e3
        obtain rfl := q3 (by omega)
        have hmid : (m : Int) < (d.length : Int) := by omega
        clear HC HN e2 e3 e4 e5 e6 q3
        go_wp2_with fail
        refine (implGv_is _ _ d t A B C _ _ _ _ _ H3.out.s.rd H3.out.s.rt HHI.out g HG.out).mono ?_
        rintro e w4 ⟨rfl, b4⟩
        have H4 := Lib.hid (H3.out.below b4)
        clear b4 H3 d1 d2 d3 d4
        obtain ⟨a', cap', b', off', c1, c2, hp, hw, -⟩ := H4.out.s.rd.at m hm
        have HRB := Lib.hid (RB1.mk' hp hw)
        generalize d[m] = bk at c1 c2 hp hw HRB HE3
        clear hp hw
        go_wp2_with fail
        refine (implNext_is _ bk _ _ _ HRB.out (-1) HE3.out.symm).mono ?_
        rintro e w5 ⟨rfl, b5⟩
        have H5 := Lib.hid (H4.out.below b5)
        obtain ⟨d1, d2, d3, d4⟩ := H5.out.cells
        have HF := Lib.hid H5.out.s.bel
        clear b5 H4 c1 c2 HRB
        go_wp2_with fail
        all_goals (go_ret; exact ⟨rfl, HF.out⟩)
    · have HF := Lib.hid H3.out.s.bel
      obtain rfl : n = -1 := by rw [HN.out]; exact bv_no (by omega)
      clear H3 HN q3
      by_cases h0 : now < 0
      · have hn0 : decide (now < 0) = true := by simpa using h0
        clear hin
        go_wp2_with fail
        refine (alive_any _).mono ?_
        rintro e w' ⟨rfl, rfl⟩
        go_wp2_with fail
        all_goals (go_ret; exact ⟨rfl, HF.out⟩)
      · have hn0 : decide (now < 0) = false := by simp; omega
        have hn1 : decide (1000000 < now) = true := by simp; omega
        clear hin
        go_wp2_with fail
        refine (alive_any _).mono ?_
        rintro e w' ⟨rfl, rfl⟩
        go_wp2_with fail
        all_goals (go_ret; exact ⟨rfl, HF.out⟩)
  · go_enter Try.func5, Try.ntmps5
    go_wp2_with fail
    all_goals (go_ret; exact ⟨rfl, Below.refl _ _⟩)

end Go.Proofs.Ytjmofmdcegefgaa

