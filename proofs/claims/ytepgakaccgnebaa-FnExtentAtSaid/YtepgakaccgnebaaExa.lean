/-
  ExtentAt, of the program and of the reference.
-/
import Derived.Test.YtepgakaccgnebaaExl
namespace Go.Proofs.Ytepgakaccgnebaa
open Go.RowKit

def exNth (xs : List (Int × Int)) (n : Int) : Int := if n < 0 then -1 else (exList xs).getD n.toNat (-1)

set_option maxHeartbeats 1000000 in
theorem implAt_any (v : Value) (xs : List (Int × Int)) (lo hi : Nat) (n : Int) (w : World) (h : RX w lo hi v xs) :
    Calls Try.prog 19 #[v, .int .i64 n] w fun e w' => e = .returned (.int .i64 (exNth xs n)) ∧ Below w.heap.size w w' := by
  have H := Lib.hid h
  clear h
  have HL := Lib.hid (exList_len xs)
  generalize hR : exNth xs n = R
  have HR := Lib.hid hR
  clear hR
  by_cases hn : n < 0
  · have hr : R = -1 := by rw [← HR.out]; simp [exNth, hn]
    subst hr
    clear HR
    go_enter Try.func19, Try.ntmps19
    go_wp2_with fail
    refine (implExl_any _ xs _ _ _ H.out).mono ?_
    rintro e w1 ⟨v1, rfl, o1, b1⟩
    have B1 := Lib.hid b1
    clear o1 b1
    go_wp2_with fail
    all_goals (go_ret; exact ⟨rfl, B1.out⟩)
  · obtain ⟨m, rfl⟩ := Int.eq_ofNat_of_zero_le (show 0 ≤ n by omega)
    have hR2 : (exList xs).getD m (-1) = R := by rw [← HR.out, exNth, if_neg hn]; rfl
    clear HR hn
    have HR := Lib.hid hR2
    clear hR2
    by_cases hm : m < (exList xs).length
    · have hr : (exList xs)[m] = R := by rw [← HR.out]; simp [hm]
      clear HR
      go_enter Try.func19, Try.ntmps19
      go_wp2_with fail
      refine (implExl_any _ xs _ _ _ H.out).mono ?_
      rintro e w1 ⟨v1, rfl, o1, b1⟩
      have B1 := Lib.hid b1
      obtain ⟨a, cap, b, off, rfl, q1, q2, q3, q4⟩ := o1.ri.open
      obtain rfl := q3 (by omega)
      have c1 := q4 m hm
      rw [hr] at c1
      have hl := HL.out
      clear o1 b1 q3 q4 hr
      go_wp2_with fail
      all_goals (go_ret; exact ⟨rfl, B1.out⟩)
    · have hr : R = -1 := by rw [← HR.out]; simp at hm; simp [hm]
      subst hr
      clear HR
      go_enter Try.func19, Try.ntmps19
      go_wp2_with fail
      refine (implExl_any _ xs _ _ _ H.out).mono ?_
      rintro e w1 ⟨v1, rfl, o1, b1⟩
      have B1 := Lib.hid b1
      obtain ⟨a, cap, b, off, rfl, q1, q2, q3, q4⟩ := o1.ri.open
      have hl := HL.out
      clear o1 b1 q3 q4
      go_wp2_with fail
      all_goals (go_ret; exact ⟨rfl, B1.out⟩)

theorem nth_drop (xs : List (Int × Int)) (k m : Nat) (hk : k < xs.length) (hs : 0 ≤ xs[k].2) :
    (exNums (xs.drop k)).getD m (-1) = if (m : Int) < xs[k].2 then xs[k].1 + (m : Int) else (exNums (xs.drop (k + 1))).getD ((m : Int) - xs[k].2).toNat (-1) := by
  rw [exNums_drop xs k hk]
  have hl := seg_len xs[k].1 xs[k].2.toNat 0
  split
  · rename_i h
    have : m < xs[k].2.toNat := by omega
    simp only [List.getD_eq_getElem?_getD]
    rw [List.getElem?_append_left (by omega)]
    simp [seg, this]
  · rename_i h
    simp only [List.getD_eq_getElem?_getD]
    rw [List.getElem?_append_right (by omega), hl, show ((m : Int) - xs[k].2).toNat = m - (xs[k].2.toNat - 0) by omega]

set_option maxHeartbeats 1000000 in
theorem specAt_any (v : Value) (xs : List (Int × Int)) (lo hi : Nat) (n : Int) (hn64 : I64 n) (w : World) (h : RX w lo hi v xs) :
    Calls Try.prog 18 #[v, .int .i64 n] w fun e w' => e = .returned (.int .i64 (exNth xs n)) ∧ Below w.heap.size w w' := by
  have H := Lib.hid h
  obtain ⟨a, cap, b, off, rfl, q1, q2, q3, q4⟩ := h.open
  have Q4 := Lib.hid q4
  clear h q4
  generalize hR : exNth xs n = R
  by_cases hn : n < 0
  · have hr : R = -1 := by rw [← hR]; simp [exNth, hn]
    subst hr
    clear hR
    go_enter Try.func18, Try.ntmps18
    go_wp2_with fail
    refine (specExv_any _ xs _ _ _ H.out).mono ?_
    rintro e w1 ⟨rfl, b1⟩
    have B1 := Lib.hid b1
    clear b1
    go_wp2_with fail
    all_goals (go_ret; exact ⟨rfl, B1.out⟩)
  · by_cases hv : exVal xs = true
    · obtain ⟨m, rfl⟩ := Int.eq_ofNat_of_zero_le (show 0 ≤ n by omega)
      have HR : Hid ((exNums (xs.drop 0)).getD m (-1) = R) := Lib.hid (by rw [← hR, exNth, if_neg hn, exList, if_pos hv]; rfl)
      have HOK := Lib.hid (exVal_ok hv)
      have hmx : m ≤ 9223372036854775807 := by have := hn64.2; omega
      clear hR hn hn64
      go_enter Try.func18, Try.ntmps18
      go_wp2_with fail
      refine (specExv_any _ xs _ _ _ H.out).mono ?_
      rintro e w1 ⟨rfl, b1⟩
      have B1 := Lib.hid b1
      clear b1
      go_wp2_with fail
      go_loopw [1, 5] (fun y i wr => wr = w1 ∧ ∃ (k m : Nat), k ≤ xs.length ∧ m ≤ 9223372036854775807 ∧ i = .int .i64 k ∧ y = .int .i64 m ∧ Hid ((exNums (xs.drop k)).getD m (-1) = R)) (fun _ i _ => xs.length - (intOf i).toNat)
      case atStart => exact ⟨rfl, 0, m, Nat.zero_le _, hmx, rfl, rfl, HR⟩
      case round =>
        clear HR hmx
        obtain ⟨rfl, k, m, hk, hmx, rfl, rfl, H0⟩ := hrel
        by_cases hlt : k < xs.length
        · obtain rfl := q3 (by omega)
          have c1 := cell_later B1.out (Q4.out k hlt).1
          have c2 := cell_later B1.out (Q4.out k hlt).2
          have hok := exOk_iff.1 (HOK.out.2 k hlt)
          have H1 := H0.out
          rw [nth_drop xs k m hlt (by omega)] at H1
          clear q3 H0
          obtain ⟨⟨x, y⟩, hxy⟩ : ∃ e, e = xs[k] := ⟨_, rfl⟩
          rw [← hxy] at c1 c2 hok H1
          clear hxy
          simp only at c1 c2 hok H1
          obtain ⟨⟨hx0, hx1⟩, hy0, hy1⟩ := hok
          obtain ⟨y, rfl⟩ := Int.eq_ofNat_of_zero_le (show 0 ≤ y by omega)
          by_cases hm : (m : Int) < y
          · rw [if_pos hm] at H1
            subst H1
            go_wp2_with fail
            all_goals (go_ret; exact ⟨rfl, B1.out⟩)
          · rw [if_neg hm, show ((m : Int) - (y : Int)).toNat = m - y by omega] at H1
            have H2 := Lib.hid H1
            clear H1
            go_wp2_with fail
            go_roundw
            case rel => exact ⟨trivial, k + 1, m - y, by omega, by omega, by go_num, by go_num, H2⟩
            case measure => simp [intOf]; omega
        · have hr : R = -1 := by rw [← H0.out, exNums_end xs k hlt]; rfl
          subst hr
          clear H0
          go_wp2_with fail
          all_goals (go_ret; exact ⟨rfl, B1.out⟩)
    · have hr : R = -1 := by rw [← hR, exNth, if_neg hn, exList, if_neg hv]; rfl
      subst hr
      have hv' : exVal xs = false := by simpa using hv
      clear hR hv
      go_enter Try.func18, Try.ntmps18
      go_wp2_with fail
      refine (specExv_any _ xs _ _ _ H.out).mono ?_
      rintro e w1 ⟨rfl, b1⟩
      have B1 := Lib.hid b1
      clear b1
      go_wp2_with fail
      all_goals (go_ret; exact ⟨rfl, B1.out⟩)

end Go.Proofs.Ytepgakaccgnebaa
