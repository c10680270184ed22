/-
  The walks over small files: SmallFits, PackSmall, UnpackSmall, of the program and of the reference.
-/
import Derived.Test.YtcjnbjbiiadieaaInts
namespace Go.Proofs.Ytcjnbjbiiadieaa
open Go.RowKit

theorem small_no {v : Int} (h : v < 0 ∨ 15 < v) : small v = false := by simp only [small, Bool.and_eq_false_iff, decide_eq_false_iff_not]; omega
theorem small_yes {v : Int} (h : 0 ≤ v) (h' : v ≤ 15) : small v = true := by simp [small, h, h']

set_option maxHeartbeats 400000 in
theorem implFits_any (v : Value) (xs : List Int) (lo hi : Nat) (w : World) (h : RI w lo hi v xs) :
    Calls Try.prog 24 #[v] w fun e w' => e = .returned (.bool (fits xs)) ∧ w = w' := by
  obtain ⟨a, cap, b, off, rfl, q1, q2, q3, q4⟩ := h.open
  clear h
  by_cases h4 : xs.length ≤ 4
  · generalize hR : fits xs = R
    have HR : Hid (R = (xs.drop 0).all small) := Lib.hid (by rw [← hR]; simp [fits, h4])
    clear hR
    go_enter Try.func24, Try.ntmps24
    go_wp2
    go_loop [4, 10] (fun _ i => ∃ k : Nat, k ≤ xs.length ∧ i = .int .i64 k ∧ Hid (R = (xs.drop k).all small)) (fun _ i => xs.length - (intOf i).toNat)
    case atStart => exact ⟨0, Nat.zero_le _, rfl, HR⟩
    case round =>
      obtain ⟨k, hk, rfl, H⟩ := hrel
      clear HR
      by_cases hlt : k < xs.length
      · obtain rfl := q3 (by omega)
        have hc := q4 k hlt
        have H2 := Lib.hid (H.out.trans (all_drop small xs k hlt))
        clear q4 q3 H
        go_wp2
        all_goals first
          | (go_round
             case rel => exact ⟨k + 1, by omega, by go_num, Lib.hid (by rw [H2.out, small_yes (by omega) (by omega)]; rfl)⟩
             case measure => simp [intOf]; omega)
          | (go_ret; exact ⟨ret_bool (by rw [H2.out, small_no (by omega)]; rfl), rfl⟩)
      · have H2 := Lib.hid (H.out.trans (all_end small xs k hlt))
        go_wp2
        go_ret
        exact ⟨ret_bool (by rw [H2.out]), rfl⟩
  · have hf : fits xs = false := by simp [fits, h4]
    rw [hf]
    go_enter Try.func24, Try.ntmps24
    go_wp2
    go_ret
    exact ⟨rfl, rfl⟩

set_option maxHeartbeats 400000 in
theorem specFits_any (v : Value) (xs : List Int) (lo hi : Nat) (w : World) (h : RI w lo hi v xs) :
    Calls Try.prog 22 #[v] w fun e w' => e = .returned (.bool (fits xs)) ∧ w = w' := by
  obtain ⟨a, cap, b, off, rfl, q1, q2, q3, q4⟩ := h.open
  clear h
  generalize hR : fits xs = R
  have HR : Hid (R = (decide (xs.length ≤ 4) && (xs.drop 0).all small)) := Lib.hid (by rw [← hR]; rfl)
  clear hR
  go_enter Try.func22, Try.ntmps22
  go_wp2
  go_loop [3] (fun i => ∃ k : Nat, k ≤ xs.length ∧ i = .int .i64 k ∧ Hid (R = (decide (xs.length ≤ 4) && (xs.drop k).all small))) (fun i => xs.length - (intOf i).toNat)
  case atStart => exact ⟨0, Nat.zero_le _, rfl, HR⟩
  case round =>
    obtain ⟨k, hk, rfl, H⟩ := hrel
    clear HR
    by_cases hlt : k < xs.length
    · obtain rfl := q3 (by omega)
      have hc := q4 k hlt
      have H2 : Hid (R = (decide (xs.length ≤ 4) && (small xs[k] && (xs.drop (k + 1)).all small))) := Lib.hid (by rw [H.out, all_drop small xs k hlt])
      clear q4 q3 H
      by_cases hs : 0 ≤ xs[k] ∧ xs[k] ≤ 15
      · have hin := inB_yes hs.1 hs.2
        go_wp2_with (go_at_call 39; refine (l1In_any _ _ _ _).mono ?_; rintro e w' ⟨rfl, rfl⟩)
        go_round
        case rel => exact ⟨k + 1, by omega, by go_num, Lib.hid (by rw [H2.out, small_yes hs.1 hs.2]; rfl)⟩
        case measure => simp [intOf]; omega
      · have hin : inB xs[k] 0 15 = false := inB_no (by omega)
        go_wp2_with (go_at_call 39; refine (l1In_any _ _ _ _).mono ?_; rintro e w' ⟨rfl, rfl⟩)
        go_ret
        exact ⟨ret_bool (by rw [H2.out, small_no (by omega)]; simp), rfl⟩
    · have H2 : Hid (R = decide (xs.length ≤ 4)) := Lib.hid (by rw [H.out, all_end small xs k hlt]; simp)
      go_wp2
      go_ret
      exact ⟨ret_bool (by rw [H2.out]; simp; try omega), rfl⟩

theorem fits_len {xs : List Int} (h : fits xs = true) : xs.length ≤ 4 := by simp [fits] at h; exact h.1
theorem fits_at {xs : List Int} (h : fits xs = true) (k : Nat) (hk : k < xs.length) : 0 ≤ xs[k] ∧ xs[k] ≤ 15 := by
  simp only [fits, Bool.and_eq_true, List.all_eq_true] at h
  have := h.2 _ (List.getElem_mem hk)
  simpa [small] using this

set_option maxHeartbeats 400000 in
theorem implPack_any (v : Value) (xs : List Int) (lo hi : Nat) (w : World) (h : RI w lo hi v xs) :
    Calls Try.prog 31 #[v] w fun e w' => e = .returned (.int .i64 (pack xs)) ∧ w = w' := by
  have hfit := implFits_any v xs lo hi w h
  have HFIT := Lib.hid hfit
  clear hfit
  obtain ⟨a, cap, b, off, rfl, q1, q2, q3, q4⟩ := h.open
  clear h
  by_cases hf : fits xs = true
  · have hl := fits_len hf
    have HA := Lib.hid (fun k hk => fits_at hf k hk)
    generalize hR : pack xs = R
    have HR : Hid (R = (xs.drop 0).foldl packF xs.length) := Lib.hid (by rw [← hR, pack, if_pos hf]; rfl)
    clear hR
    go_enter Try.func31, Try.ntmps31
    go_wp2_with (go_at_call 24; refine HFIT.out.mono ?_; rintro e w' ⟨rfl, rfl⟩)
    go_loop [3, 5, 13] (fun q _ i => ∃ (k : Nat) (x : Int), k ≤ xs.length ∧ i = .int .i64 k ∧ q = .int .i64 x ∧ 0 ≤ x ∧ x ≤ 1000 * 100 ^ k ∧ Hid (R = (xs.drop k).foldl packF x)) (fun _ _ i => xs.length - (intOf i).toNat)
    case atStart => exact ⟨0, xs.length, Nat.zero_le _, rfl, rfl, by omega, by omega, HR⟩
    case round =>
      obtain ⟨k, x, hk, rfl, rfl, hx0, hx1, H⟩ := hrel
      clear HR HFIT hf
      have hx2 : x ≤ 100000000000 := by
        have : k = 0 ∨ k = 1 ∨ k = 2 ∨ k = 3 ∨ k = 4 := by omega
        rcases this with rfl | rfl | rfl | rfl | rfl <;> omega
      have hx3 : 16 * x + 15 ≤ 1000 * 100 ^ (k + 1) := by
        have : k = 0 ∨ k = 1 ∨ k = 2 ∨ k = 3 ∨ k = 4 := by omega
        rcases this with rfl | rfl | rfl | rfl | rfl <;> omega
      have HX := Lib.hid hx3
      clear hx3 hx1
      by_cases hlt : k < xs.length
      · obtain rfl := q3 (by omega)
        have hc := q4 k hlt
        have ha := HA.out k hlt
        have H2 := Lib.hid (H.out.trans (foldl_drop packF x xs k hlt))
        clear q4 q3 H
        go_wp2
        go_round
        case rel => exact ⟨k + 1, packF x xs[k], by omega, by go_num, rfl, by unfold packF; omega, by have := HX.out; unfold packF; omega, H2⟩
        case measure => simp [intOf]; omega
      · have H2 := Lib.hid (H.out.trans (foldl_end packF x xs k hlt))
        go_wp2
        go_ret
        exact ⟨ret_int (by rw [H2.out]), rfl⟩
  · have hf' : fits xs = false := by simpa using hf
    have hp : pack xs = -1 := by rw [pack, if_neg hf]
    rw [hp]
    clear hp hf
    go_enter Try.func31, Try.ntmps31
    go_wp2_with (go_at_call 24; refine HFIT.out.mono ?_; rintro e w' ⟨rfl, rfl⟩)
    go_ret
    exact ⟨rfl, rfl⟩

set_option maxHeartbeats 400000 in
theorem specPack_any (v : Value) (xs : List Int) (lo hi : Nat) (w : World) (h : RI w lo hi v xs) :
    Calls Try.prog 30 #[v] w fun e w' => e = .returned (.int .i64 (pack xs)) ∧ w = w' := by
  have hfit := specFits_any v xs lo hi w h
  have HFIT := Lib.hid hfit
  clear hfit
  obtain ⟨a, cap, b, off, rfl, q1, q2, q3, q4⟩ := h.open
  clear h
  by_cases hf : fits xs = true
  · have hl := fits_len hf
    have HA := Lib.hid (fun k hk => fits_at hf k hk)
    generalize hR : pack xs = R
    have HR : Hid (R = (xs.drop 0).foldl packF xs.length) := Lib.hid (by rw [← hR, pack, if_pos hf]; rfl)
    clear hR
    go_enter Try.func30, Try.ntmps30
    go_wp2_with (go_at_call 22; refine HFIT.out.mono ?_; rintro e w' ⟨rfl, rfl⟩)
    go_loop [3, 4] (fun q i => ∃ (k : Nat) (x : Int), k ≤ xs.length ∧ i = .int .i64 k ∧ q = .int .i64 x ∧ 0 ≤ x ∧ x ≤ 1000 * 100 ^ k ∧ Hid (R = (xs.drop k).foldl packF x)) (fun _ i => xs.length - (intOf i).toNat)
    case atStart => exact ⟨0, xs.length, Nat.zero_le _, rfl, rfl, by omega, by omega, HR⟩
    case round =>
      obtain ⟨k, x, hk, rfl, rfl, hx0, hx1, H⟩ := hrel
      clear HR HFIT hf
      have hx2 : x ≤ 100000000000 := by
        have : k = 0 ∨ k = 1 ∨ k = 2 ∨ k = 3 ∨ k = 4 := by omega
        rcases this with rfl | rfl | rfl | rfl | rfl <;> omega
      have hx3 : 16 * x + 15 ≤ 1000 * 100 ^ (k + 1) := by
        have : k = 0 ∨ k = 1 ∨ k = 2 ∨ k = 3 ∨ k = 4 := by omega
        rcases this with rfl | rfl | rfl | rfl | rfl <;> omega
      have HX := Lib.hid hx3
      clear hx3 hx1
      by_cases hlt : k < xs.length
      · obtain rfl := q3 (by omega)
        have hc := q4 k hlt
        have ha := HA.out k hlt
        have H2 := Lib.hid (H.out.trans (foldl_drop packF x xs k hlt))
        clear q4 q3 H
        go_wp2
        go_round
        case rel => exact ⟨k + 1, packF x xs[k], by omega, by go_num, rfl, by unfold packF; omega, by have := HX.out; unfold packF; omega, H2⟩
        case measure => simp [intOf]; omega
      · have H2 := Lib.hid (H.out.trans (foldl_end packF x xs k hlt))
        go_wp2
        go_ret
        exact ⟨ret_int (by rw [H2.out]), rfl⟩
  · have hf' : fits xs = false := by simpa using hf
    have hp : pack xs = -1 := by rw [pack, if_neg hf]
    rw [hp]
    clear hp hf
    go_enter Try.func30, Try.ntmps30
    go_wp2_with (go_at_call 22; refine HFIT.out.mono ?_; rintro e w' ⟨rfl, rfl⟩)
    go_ret
    exact ⟨rfl, rfl⟩

end Go.Proofs.Ytcjnbjbiiadieaa
