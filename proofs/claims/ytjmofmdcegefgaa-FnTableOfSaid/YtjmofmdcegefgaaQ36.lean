/-
  Texts of this claim, laid together: LfBcs, LfOld.
-/
import Derived.Test.YtjmofmdcegefgaaQ19
import Derived.Test.YtjmofmdcegefgaaQ20
import Derived.Test.YtjmofmdcegefgaaQ24
import Derived.Test.YtjmofmdcegefgaaQ35
namespace Go.Proofs.Ytjmofmdcegefgaa
open Go.RowKit
set_option linter.unusedSimpArgs false
set_option linter.unusedVariables false
set_option linter.unnecessarySimpa false

/-- A device that is drawn, and a table in a box. -/
structure LvS (w0 : World) (hi B : Nat) (v : Value) (d : List Bk) (tv : Value) (t : List (List Int)) (w : World) : Prop where
  rd : RD w w0.heap.size hi v d
  rt : RT w w0.heap.size hi tv t
  bel : Below w0.heap.size w0 w
  box : w.heap[B]? = some (.cells #[tv] 26)
theorem LvS.below {w0 w w' : World} {hi B : Nat} {v tv : Value} {d : List Bk} {t : List (List Int)} (h : LvS w0 hi B v d tv t w) (b : Below w.heap.size w w') : LvS w0 hi B v d tv t w' :=
  ⟨h.rd.below b, h.rt.below b, bup2 h.bel b, box_keep h.box b⟩
theorem lvs_new {w0 w1 : World} {v tv : Value} {d : List Bk} {t : List (List Int)} (h1 : RD w1 w0.heap.size w1.heap.size v d) (h2 : RT w1 w0.heap.size w1.heap.size tv t) (b : Below w0.heap.size w0 w1) : LvS w0 w1.heap.size w1.heap.size v d tv t (w1.alloc (.cells #[tv] 26)) :=
  ⟨h1.below (balloc _ _), h2.below (balloc _ _), bup2 b (balloc _ _), heap_alloc_new _ _⟩
theorem LvS.cell {w0 w : World} {hi B : Nat} {v tv : Value} {d : List Bk} {t : List (List Int)} (h : LvS w0 hi B v d tv t w) : w.cell? ⟨B, 0, none⟩ = some tv := (one_at h.box).1
/-- And a list of numbers. -/
def LvX (w0 : World) (hi B : Nat) (v : Value) (d : List Bk) (tv : Value) (t : List (List Int)) (lo : Nat) (vx : Value) (xs : List Int) (w : World) : Prop := LvS w0 hi B v d tv t w ∧ RI w lo w.heap.size vx xs
theorem LvX.below {w0 w w' : World} {hi B lo : Nat} {v tv vx : Value} {d : List Bk} {t : List (List Int)} {xs : List Int} (h : LvX w0 hi B v d tv t lo vx xs w) (b : Below w.heap.size w w') : LvX w0 hi B v d tv t lo vx xs w' :=
  ⟨h.1.below b, (h.2.below b).wide (Nat.le_refl _) b.size⟩
theorem sameInts_yes2 (v v2 : Value) (xs : List Int) (lo hi lo2 hi2 : Nat) (w : World) (h : RI w lo hi v xs) (h2 : RI w lo2 hi2 v2 xs) (hx : xs.length ≤ 1048576) :
    Calls Try.prog 35 #[v, v2] w fun e w' => e = .returned (.bool true) ∧ Below w.heap.size w w' := by
  have c := sameInts_any v v2 xs xs lo hi lo2 hi2 w h h2 hx hx
  rw [sameL_self] at c
  exact c

set_option maxHeartbeats 4000000 in
theorem FnBlockCounts_walk (w : World) (v : Value) (bs : List Int) (h : RB w 0 w.heap.size v bs) :
    Calls Try.prog 8 #[v] w fun e w' => e = .returned (.bool true) ∧ Below w.heap.size w w' := by
  have HB := Lib.hid h
  obtain ⟨a, cap, b, off, rfl, -⟩ := h.open
  clear h
  by_cases hl : bs.length ≤ 1048576
  · go_enter Try.func8, Try.ntmps8
    go_wp2_with fail
    refine (dBlockCounts _ _ bs HB.out).mono ?_
    rintro e w1 ⟨v1, d, v2, t, rfl, hrd, hsm, hrt, b1⟩
    obtain ⟨a1, cap1, b1', off1, rfl, -⟩ := hrd.open
    obtain ⟨a2, cap2, b2', off2, rfl, -⟩ := hrt.open
    have H1 := Lib.hid (lvs_new hrd hrt b1)
    have hdl := hsm.1
    clear hrd hrt b1 hsm HB
    go_wp2_with fail
    refine (implBcs_any _ _ d t _ _ _ _ _ H1.out.rd H1.out.rt).mono ?_
    rintro e w2 ⟨vx, rfl, ox, b2⟩
    have hx0 := bcs_len d t
    have HF4 := Lib.hid (fun (k : Nat) (x : Int) (hx : (bcs d t)[k]? = some x) => bcs_four d t hx)
    have HSU := Lib.hid (bcs_sum d t)
    have HLN := Lib.hid (bcs_lens d t)
    obtain ⟨xs, hxs⟩ : ∃ xs, xs = bcs d t := ⟨_, rfl⟩
    rw [← hxs] at ox hx0 HF4 HSU HLN
    have HXS := Lib.hid hxs
    have hxl : xs.length ≤ 1048576 := by omega
    have H2 : Hid (LvX w w1.heap.size w1.heap.size (.slice a1 d.length cap1) d (.slice a2 t.length cap2) t 0 vx xs w2) := Lib.hid ⟨H1.out.below b2, ox.ri.wide (by omega) (Nat.le_refl _)⟩
    have d2 := H2.out.1.cell
    obtain ⟨a3, cap3, b3', off3, rfl, q1, q2, -⟩ := H2.out.2.open
    clear b2 H1 ox hxs
    go_wp2_with fail
    refine (specBcs_any _ _ d t _ _ _ _ _ H2.out.1.rd H2.out.1.rt).mono ?_
    rintro e w3 ⟨v3, rfl, o3, b3⟩
    rw [← HXS.out] at o3
    have H3 := Lib.hid (And.intro (H2.out.below b3) o3)
    clear b3 o3 H2 d2
    go_wp2_with fail
    refine (sameInts_yes2 _ _ xs _ _ _ _ _ H3.out.1.2 H3.out.2.ri hxl).mono ?_
    rintro e w4 ⟨rfl, b4⟩
    have H4 := Lib.hid (H3.out.1.below b4)
    clear b4 H3
    go_wp2_with fail
    go_loopw [6, 7] (fun m i wr => ∃ (k : Nat) (s : Int), k ≤ xs.length ∧ i = .int .i64 k ∧ m = .int .i64 s ∧ 0 ≤ s ∧ s ≤ 4 * k ∧ s = sumN xs k ∧ LvX w w1.heap.size w1.heap.size (.slice a1 d.length cap1) d (.slice a2 t.length cap2) t 0 (.slice a3 xs.length cap3) xs wr) (fun _ i _ => 20 - (intOf i).toNat)
    case atStart => exact ⟨0, 0, by omega, rfl, rfl, by omega, by omega, (sumN_zero xs).symm, H4.out⟩
    case round =>
      obtain ⟨k, s, hk, rfl, rfl, hs0, hs1, hse, hR⟩ := hrel
      obtain ⟨wo, rfl⟩ : ∃ wo : World, wo = wr := ⟨_, rfl⟩
      have HR := Lib.hid hR
      have HSE := Lib.hid hse
      obtain ⟨a5, cap5, b5, off5, e5, -, -, s3, s4⟩ := hR.2.open
      clear hR H4 hse
      by_cases hlt : k < xs.length
      · obtain rfl := s3 (by omega)
        simp only [Value.slice.injEq, true_and] at e5
        obtain ⟨rfl, rfl⟩ := e5
        have c1 := s4 k hlt
        obtain ⟨y0, y1⟩ := HF4.out k _ (List.getElem?_eq_getElem hlt)
        have HS2 := Lib.hid (sumN_succ hlt)
        generalize xs[k] = y at c1 y0 y1 HS2
        have hki : (k : Int) < (xs.length : Int) := by omega
        have hd0 : decide (y < 0) = false := by simpa using y0
        have hd4 : decide (4 < y) = false := by simpa using y1
        clear s3 s4
        go_wp2_with fail
        go_roundw
        case rel => exact ⟨k + 1, s + y, by omega, by go_num, by go_num, by omega, by omega, by rw [HS2.out, HSE.out], HR.out⟩
        case measure => simp [intOf]; omega
      · have hki : ¬ (k : Int) < (xs.length : Int) := by omega
        have d4 := HR.out.1.cell
        have hsu : s ≤ ((used t).length : Int) := by rw [HSE.out, sumN_all (by omega)]; exact HSU.out
        clear s3 s4 e5
        go_wp2_with fail
        refine (implUsed_any _ t _ _ _ HR.out.1.rt).mono ?_
        rintro e w5 ⟨v5, rfl, o5, b5⟩
        obtain ⟨a6, cap6, b6', off6, rfl, r1, r2, -⟩ := o5.ri.open
        have HF := Lib.hid (HR.out.1.below b5).bel
        have hdu : decide (s ≤ ((used t).length : Int)) = true := by simpa using hsu
        have hul := used_len t
        generalize (used t).length = m at hdu hsu hul r1
        clear o5 b5 HR d4
        have hln := HLN.out
        generalize xs.length = n at hln hki hk hx0 hxl q1
        clear HLN
        by_cases hn0 : n = 0
        · subst hn0
          clear hln
          go_wp2_with fail
          refine (alive_any _).mono ?_
          rintro e w' ⟨rfl, rfl⟩
          go_wp2_with fail
          all_goals (go_ret; exact ⟨rfl, HF.out⟩)
        · have hnd : n = d.length := by omega
          have hne : ((n : Int) == 0) = false := by simp; omega
          have hne2 : ((n : Int) == (d.length : Int)) = true := by simp; omega
          clear hln hnd
          go_wp2_with fail
          refine (alive_any _).mono ?_
          rintro e w' ⟨rfl, rfl⟩
          go_wp2_with fail
          all_goals (go_ret; exact ⟨rfl, HF.out⟩)
  · go_enter Try.func8, Try.ntmps8
    go_wp2_with fail
    all_goals (go_ret; exact ⟨rfl, Below.refl _ _⟩)

end Go.Proofs.Ytjmofmdcegefgaa

namespace Go.Proofs.Ytjmofmdcegefgaa
open Go.RowKit
set_option linter.unusedSimpArgs false
set_option linter.unusedVariables false
set_option linter.unnecessarySimpa false

theorem implOld_is (v tv : Value) (d : List Bk) (t : List (List Int)) (lo hi lo2 hi2 : Nat) (w : World) (h : RD w lo hi v d) (h2 : RT w lo2 hi2 tv t) (n : Int) (hn : n = old d t) :
    Calls Try.prog 10 #[v, .agg #[tv]] w fun e w' => e = .returned (.int .i64 n) ∧ Below w.heap.size w w' := by
  subst hn
  exact implOld_any v tv d t lo hi lo2 hi2 w h h2
theorem specOld_is (v tv : Value) (d : List Bk) (t : List (List Int)) (lo hi lo2 hi2 : Nat) (w : World) (h : RD w lo hi v d) (h2 : RT w lo2 hi2 tv t) (n : Int) (hn : n = old d t) :
    Calls Try.prog 11 #[v, .agg #[tv]] w fun e w' => e = .returned (.int .i64 n) ∧ Below w.heap.size w w' := by
  subst hn
  exact specOld_any v tv d t lo hi lo2 hi2 w h h2
theorem implFre_is (v : Value) (d : List Bk) (lo hi : Nat) (w : World) (h : RD w lo hi v d) (n : Int) (hn : n = frees d) :
    Calls Try.prog 14 #[v] w fun e w' => e = .returned (.int .i64 n) ∧ Below w.heap.size w w' := by
  subst hn
  exact implFre_any v d lo hi w h

set_option maxHeartbeats 4000000 in
theorem FnOldPages_walk (w : World) (v : Value) (bs : List Int) (h : RB w 0 w.heap.size v bs) :
    Calls Try.prog 3 #[v] w fun e w' => e = .returned (.bool true) ∧ Below w.heap.size w w' := by
  have HB := Lib.hid h
  obtain ⟨a, cap, b, off, rfl, -⟩ := h.open
  clear h
  by_cases hl : bs.length ≤ 1048576
  · go_enter Try.func3, Try.ntmps3
    go_wp2_with fail
    refine (dOldPages _ _ bs HB.out).mono ?_
    rintro e w1 ⟨v1, d, v2, t, rfl, hrd, hsm, hrt, b1⟩
    obtain ⟨a1, cap1, b1', off1, rfl, -⟩ := hrd.open
    obtain ⟨a2, cap2, b2', off2, rfl, -⟩ := hrt.open
    have H1 := Lib.hid (lvs_new hrd hrt b1)
    have hdl := hsm.1
    have HO := Lib.hid (old_is d t)
    obtain ⟨n, hn⟩ : ∃ n, n = old d t := ⟨_, rfl⟩
    have HN := Lib.hid hn
    rw [← hn] at HO
    clear hrd hrt b1 hsm HB hn
    go_wp2_with fail
    refine (implOld_is _ _ d t _ _ _ _ _ H1.out.rd H1.out.rt n HN.out).mono ?_
    rintro e w2 ⟨rfl, b2⟩
    have H2 := Lib.hid (H1.out.below b2)
    have d2 := H2.out.cell
    clear b2 H1
    go_wp2_with fail
    refine (specOld_is _ _ d t _ _ _ _ _ H2.out.rd H2.out.rt n HN.out).mono ?_
    rintro e w3 ⟨rfl, b3⟩
    have H3 := Lib.hid (H2.out.below b3)
    clear b3 H2 d2
    rcases HO.out with e1 | ⟨n0, n1, ⟨f0, f1⟩, l1, ⟨s0, s1⟩, e1⟩
    · have HF := Lib.hid H3.out.bel
      subst e1
      clear HO H3 HN
      go_wp2_with fail
      refine (alive_any _).mono ?_
      rintro e w' ⟨rfl, rfl⟩
      go_wp2_with fail
      all_goals (go_ret; exact ⟨rfl, HF.out⟩)
    · have hnd : decide (n < 0) = false := by simpa using n0
      have HE := Lib.hid e1
      have d3 := H3.out.cell
      obtain ⟨fr, hfr⟩ : ∃ n, n = frees d := ⟨_, rfl⟩
      have HFR := Lib.hid hfr
      rw [← hfr] at HE f0 f1
      clear HO HN hfr e1
      go_wp2_with fail
      refine (implBcs_any _ _ d t _ _ _ _ _ H3.out.rd H3.out.rt).mono ?_
      rintro e w4 ⟨vx, rfl, ox, b4⟩
      have hx0 := bcs_len d t
      have HF4 := Lib.hid (fun (k : Nat) (x : Int) (hx : (bcs d t)[k]? = some x) => bcs_four d t hx)
      obtain ⟨xs, hxs⟩ : ∃ xs, xs = bcs d t := ⟨_, rfl⟩
      rw [← hxs] at ox hx0 HF4 HE s0 s1
      have H4 : Hid (LvX w w1.heap.size w1.heap.size (.slice a1 d.length cap1) d (.slice a2 t.length cap2) t 0 vx xs w4) := Lib.hid ⟨H3.out.below b4, ox.ri.wide (by omega) (Nat.le_refl _)⟩
      obtain ⟨a3, cap3, b3', off3, rfl, q1, q2, -⟩ := H4.out.2.open
      clear b4 H3 ox hxs d3
      go_wp2_with fail
      refine (implFre_is _ d _ _ _ H4.out.1.rd fr HFR.out).mono ?_
      rintro e w5 ⟨rfl, b5⟩
      have H5 := Lib.hid (H4.out.below b5)
      clear b5 H4 HFR
      obtain ⟨g, hg⟩ : ∃ g, g = n + fr := ⟨_, rfl⟩
      have hgw : IntKind.i64.wrap (n + fr) = g := by rw [IntKind.wrap_i64]; omega
      have HG := Lib.hid hg
      have hg0 : 0 ≤ g ∧ g ≤ 96 := by omega
      clear hg
      go_wp2_with fail
      go_loopw [7, 8] (fun m i wr => ∃ (k : Nat) (s : Int), k ≤ xs.length ∧ i = .int .i64 k ∧ m = .int .i64 s ∧ 0 ≤ s ∧ s ≤ 96 + 4 * k ∧ s = g + sumN xs k ∧ LvX w w1.heap.size w1.heap.size (.slice a1 d.length cap1) d (.slice a2 t.length cap2) t 0 (.slice a3 xs.length cap3) xs wr) (fun _ i _ => 20 - (intOf i).toNat)
      case atStart => exact ⟨0, g, by omega, rfl, by go_num, by omega, by omega, by rw [sumN_zero]; omega, H5.out⟩
      case round =>
        obtain ⟨k, s, hk, rfl, rfl, hs0, hs1, hse, hR⟩ := hrel
        obtain ⟨wo, rfl⟩ : ∃ wo : World, wo = wr := ⟨_, rfl⟩
        have HR := Lib.hid hR
        have HSE := Lib.hid hse
        obtain ⟨a5, cap5, b5, off5, e5, -, -, s3, s4⟩ := hR.2.open
        clear hR H5 hse
        by_cases hlt : k < xs.length
        · obtain rfl := s3 (by omega)
          simp only [Value.slice.injEq, true_and] at e5
          obtain ⟨rfl, rfl⟩ := e5
          have c1 := s4 k hlt
          obtain ⟨y0, y1⟩ := HF4.out k _ (List.getElem?_eq_getElem hlt)
          have HS2 := Lib.hid (sumN_succ hlt)
          generalize xs[k] = y at c1 y0 y1 HS2
          have hki : (k : Int) < (xs.length : Int) := by omega
          clear s3 s4
          go_wp2_with fail
          go_roundw
          case rel => exact ⟨k + 1, s + y, by omega, by go_num, by go_num, by omega, by omega, by rw [HS2.out, HSE.out]; omega, HR.out⟩
          case measure => simp [intOf]; omega
        · have hki : ¬ (k : Int) < (xs.length : Int) := by omega
          have hsu : (s == 4 * (d.length : Int)) = true := by
            have e1 := HSE.out
            have e2 := HG.out
            have e3 := HE.out
            rw [sumN_all (by omega)] at e1
            simp only [beq_iff_eq]
            omega
          have HF := Lib.hid HR.out.1.bel
          clear s3 s4 e5
          go_wp2_with fail
          all_goals (go_ret; exact ⟨rfl, HF.out⟩)
  · go_enter Try.func3, Try.ntmps3
    go_wp2_with fail
    all_goals (go_ret; exact ⟨rfl, Below.refl _ _⟩)

end Go.Proofs.Ytjmofmdcegefgaa

