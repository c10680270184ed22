/-
  ExtentsValid, of the program and of the reference.
-/
import Derived.Test.YtepgakaccgnebaaExt
namespace Go.Proofs.Ytepgakaccgnebaa
open Go.RowKit

/-- One extent has numbers in their bounds. -/
def exOk (e : Int × Int) : Bool := inB e.1 0 1000000 && inB e.2 1 40
/-- It does not go on where the one before ends. -/
def exNew (xs : List (Int × Int)) (k : Nat) : Bool := decide (k = 0) || !((xs.getD k (0, 0)).1 == (xs.getD (k - 1) (0, 0)).1 + (xs.getD (k - 1) (0, 0)).2)
def exAt (xs : List (Int × Int)) (k : Nat) : Bool := exOk (xs.getD k (0, 0)) && exNew xs k
def exVal (xs : List (Int × Int)) : Bool := decide (xs.length ≤ 8) && (List.range xs.length).all (exAt xs)

theorem range_drop (n k : Nat) (hk : k < n) (p : Nat → Bool) : ((List.range n).drop k).all p = (p k && ((List.range n).drop (k + 1)).all p) := by
  have h : k < (List.range n).length := by simpa using hk
  have := all_drop p (List.range n) k h
  simpa using this
theorem range_end (n k : Nat) (hk : ¬ k < n) (p : Nat → Bool) : ((List.range n).drop k).all p = true := by
  rw [List.drop_of_length_le (by simp; omega)]; rfl

theorem l1In_q (n lo hi : Int) (w : World) : Calls Try.prog 35 #[.int .i64 n, .int .i64 lo, .int .i64 hi] w fun e w' => e = .returned (.bool (inB n lo hi)) ∧ w' = w :=
  (l1In_any n lo hi w).mono fun _ _ ⟨h1, h2⟩ => ⟨h1, h2.symm⟩

theorem exOk_iff {e : Int × Int} : exOk e = true ↔ (0 ≤ e.1 ∧ e.1 ≤ 1000000) ∧ (1 ≤ e.2 ∧ e.2 ≤ 40) := by
  simp only [exOk, Bool.and_eq_true, inB_iff]

set_option maxHeartbeats 10000000 in
theorem implExv_any (v : Value) (xs : List (Int × Int)) (lo hi : Nat) (w : World) (h : RX w lo hi v xs) :
    Calls Try.prog 14 #[v] w fun e w' => e = .returned (.bool (exVal xs)) ∧ Below w.heap.size w w' := by
  obtain ⟨a, cap, b, off, rfl, q1, q2, q3, q4⟩ := h.open
  have Q4 := Lib.hid q4
  have hw := h.2
  clear h q4
  by_cases h8 : xs.length ≤ 8
  · generalize hR : exVal xs = R
    have HR : Hid (R = ((List.range xs.length).drop 0).all (exAt xs)) := Lib.hid (by rw [← hR]; simp [exVal, h8])
    clear hR
    go_enter Try.func14, Try.ntmps14
    go_wp2
    go_loopw [3, 4, 10] (fun _ _ i wr => ∃ k : Nat, k ≤ xs.length ∧ i = .int .i64 k ∧ Below w.heap.size w wr ∧ Hid (R = ((List.range xs.length).drop k).all (exAt xs)) ∧ Hid (∀ j (hj : j < xs.length), j < k → exOk xs[j] = true)) (fun _ _ i _ => xs.length - (intOf i).toNat)
    case atStart => exact ⟨0, Nat.zero_le _, rfl, Below.refl _ _, HR, Lib.hid (fun j _ h => absurd h (Nat.not_lt_zero _))⟩
    case round =>
      obtain ⟨k, hk, rfl, hbr, H, HO⟩ := hrel
      clear HR
      have HB := Lib.hid hbr
      have hz := hbr.size
      clear hbr
      by_cases hlt : k < xs.length
      · obtain rfl := q3 (by omega)
        have c1 := cell_later HB.out (Q4.out k hlt).1
        have c2 := cell_later HB.out (Q4.out k hlt).2
        have H2 := Lib.hid (H.out.trans (range_drop xs.length k hlt (exAt xs)))
        clear q3 H
        obtain ⟨⟨x, y⟩, hxy⟩ : ∃ e, e = xs[k] := ⟨_, rfl⟩
        have HXY := Lib.hid hxy
        rw [← hxy] at c1 c2
        clear hxy
        simp only at c1 c2
        have hX : I64 x ∧ I64 y := by have := hw xs[k] (List.getElem_mem hlt); rw [← HXY.out] at this; exact this
        obtain ⟨⟨x0, x1⟩, y0, y1⟩ := hX
        have HN : Hid (xs.getD k (0, 0) = (x, y)) := Lib.hid (by simp [hlt, HXY.out])
        by_cases hok : (0 ≤ x ∧ x ≤ 1000000) ∧ (1 ≤ y ∧ y ≤ 40)
        · have HK := Lib.hid (exOk_iff (e := (x, y)).2 hok)
          have HO2 : Hid (∀ j (hj : j < xs.length), j < k + 1 → exOk xs[j] = true) := Lib.hid fun j hj h => by
            by_cases e : j = k
            · subst e; rw [← HXY.out]; exact HK.out
            · exact HO.out j hj (by omega)
          obtain ⟨⟨g1, g2⟩, g3, g4⟩ := hok
          by_cases hk0 : k = 0
          · have hd : decide (0 < k) = false := by simp; omega
            have hd2 : decide ((0 : Int) < (k : Int)) = false := by simp; omega
            have H3 : Hid (R = ((List.range xs.length).drop (k + 1)).all (exAt xs)) := Lib.hid (by rw [H2.out, exAt, HN.out, HK.out, exNew]; simp [hk0])
            have HF := Lib.hid (HB.out.alloc hz (.cells #[.int .i64 x, .int .i64 y] 32))
            clear hk0 H2 HO
            go_wp2
            go_quiet (fail)
            have HF2 := Lib.hid (HF.out.drewN nq)
            go_wp2
            go_roundw
            case rel => exact ⟨k + 1, by omega, by go_num, HF2.out, H3, HO2⟩
            case measure => simp [intOf]; omega
          · have hkp : 0 < k := by omega
            have hd : (0 : Int) < (k : Int) := by omega
            have hlt1 : k - 1 < xs.length := by omega
            have p1 := cell_later HB.out (Q4.out (k - 1) hlt1).1
            have p2 := cell_later HB.out (Q4.out (k - 1) hlt1).2
            obtain ⟨⟨px, py⟩, hp⟩ : ∃ e, e = xs[k - 1] := ⟨_, rfl⟩
            have hP := exOk_iff.1 (HO.out (k - 1) hlt1 (by omega))
            rw [← hp] at p1 p2 hP
            simp only at p1 p2 hP
            have HP := Lib.hid (show xs.getD (k - 1) (0, 0) = (px, py) by simp [hlt1, hp])
            obtain ⟨⟨hP1, hP2⟩, hP3, hP4⟩ := hP
            have hk1 : ((k : Int) - 1).toNat = k - 1 := by omega
            have HF := Lib.hid (HB.out.alloc hz (.cells #[.int .i64 x, .int .i64 y] 32))
            have p1' := cell_later ((Below.refl _ _).alloc (Nat.le_refl _) (.cells #[.int .i64 x, .int .i64 y] 32)) p1
            have p2' := cell_later ((Below.refl _ _).alloc (Nat.le_refl _) (.cells #[.int .i64 x, .int .i64 y] 32)) p2
            clear hp HO hk0
            have d1 : decide (x < 0) = false := by simp; omega
            have d2 : decide (1000000 < x) = false := by simp; omega
            have d3 : decide (y < 1) = false := by simp; omega
            have d4 : decide (40 < y) = false := by simp; omega
            by_cases he : ¬ x = px + py
            · have HEB := Lib.hid (show (x == px + py) = false by simp [he])
              have H3 : Hid (R = ((List.range xs.length).drop (k + 1)).all (exAt xs)) := Lib.hid (by rw [H2.out, exAt, HN.out, HK.out, exNew, HN.out, HP.out]; simp [he])
              clear he H2
              go_wp2
              have heb := HEB.out
              go_quiet (fail)
              have HF2 := Lib.hid (HF.out.drewN nq)
              go_wp2
              go_roundw
              case rel => exact ⟨k + 1, by omega, by go_num, HF2.out, H3, HO2⟩
              case measure => simp [intOf]; omega
            · have HEB := Lib.hid (show (x == px + py) = true by simpa using he)
              have H3 : Hid (R = false) := Lib.hid (by rw [H2.out, exAt, HN.out, HK.out, exNew, HN.out, HP.out]; simp at he; simp [he]; omega)
              clear he H2
              go_wp2
              have heb := HEB.out
              go_quiet (fail)
              have HF2 := Lib.hid (HF.out.drewN nq)
              go_wp2
              go_ret
              exact ⟨ret_bool (by rw [H3.out]), HF2.out⟩
        · have hK : exOk (x, y) = false := by
            cases h : exOk (x, y) with
            | false => rfl
            | true => exact absurd (exOk_iff.1 h) hok
          have H3 : Hid (R = false) := Lib.hid (by rw [H2.out, exAt, HN.out, hK]; simp)
          have HF := Lib.hid (HB.out.alloc hz (.cells #[.int .i64 x, .int .i64 y] 32))
          clear hK H2
          rcases (show x < 0 ∨ (0 ≤ x ∧ 1000000 < x) ∨ (0 ≤ x ∧ x ≤ 1000000 ∧ y < 1) ∨ (0 ≤ x ∧ x ≤ 1000000 ∧ 1 ≤ y ∧ 40 < y) from by omega) with h1 | ⟨h1, h2⟩ | ⟨h1, h2, h3⟩ | ⟨h1, h2, h3, h4⟩
          all_goals
            clear hok
            go_wp2
            all_goals (go_ret; exact ⟨ret_bool (by rw [H3.out]), HF.out⟩)
      · go_wp2
        go_ret
        exact ⟨ret_bool (by rw [H.out, range_end _ _ hlt]), HB.out⟩
  · have hf : exVal xs = false := by simp [exVal, h8]
    rw [hf]
    go_enter Try.func14, Try.ntmps14
    go_wp2
    all_goals (go_ret; exact ⟨rfl, Below.refl _ _⟩)

set_option maxHeartbeats 10000000 in
theorem specExv_any (v : Value) (xs : List (Int × Int)) (lo hi : Nat) (w : World) (h : RX w lo hi v xs) :
    Calls Try.prog 12 #[v] w fun e w' => e = .returned (.bool (exVal xs)) ∧ Below w.heap.size w w' := by
  obtain ⟨a, cap, b, off, rfl, q1, q2, q3, q4⟩ := h.open
  have Q4 := Lib.hid q4
  clear h q4
  generalize hR : exVal xs = R
  have HR : Hid (R = (decide (xs.length ≤ 8) && ((List.range xs.length).drop 0).all (exAt xs))) := Lib.hid (by rw [← hR]; rfl)
  clear hR
  go_enter Try.func12, Try.ntmps12
  go_wp2
  go_loopw [3] (fun i wr => ∃ k : Nat, k ≤ xs.length ∧ i = .int .i64 k ∧ Below w.heap.size w wr ∧ Hid (R = (decide (xs.length ≤ 8) && ((List.range xs.length).drop k).all (exAt xs))) ∧ Hid (∀ j (hj : j < xs.length), j < k → exOk xs[j] = true)) (fun i _ => xs.length - (intOf i).toNat)
  case atStart => exact ⟨0, Nat.zero_le _, rfl, Below.refl _ _, HR, Lib.hid (fun j _ h => absurd h (Nat.not_lt_zero _))⟩
  case round =>
    obtain ⟨k, hk, rfl, hbr, H, HO⟩ := hrel
    have HB := Lib.hid hbr
    clear HR hbr
    by_cases hlt : k < xs.length
    · obtain rfl := q3 (by omega)
      have c1 := cell_later HB.out (Q4.out k hlt).1
      have c2 := cell_later HB.out (Q4.out k hlt).2
      have H2 : Hid (R = (decide (xs.length ≤ 8) && (exAt xs k && ((List.range xs.length).drop (k + 1)).all (exAt xs)))) := Lib.hid (by rw [H.out, range_drop xs.length k hlt])
      clear q3 H
      obtain ⟨⟨x, y⟩, hxy⟩ : ∃ e, e = xs[k] := ⟨_, rfl⟩
      have HXY := Lib.hid hxy
      rw [← hxy] at c1 c2
      clear hxy
      simp only at c1 c2
      have HN : Hid (xs.getD k (0, 0) = (x, y)) := Lib.hid (by simp [hlt, HXY.out])
      by_cases hx : inB x 0 1000000 = true
      · by_cases hy : inB y 1 40 = true
        · have HK : Hid (exOk (x, y) = true) := Lib.hid (by simp only [exOk, hx, hy]; rfl)
          have HO2 : Hid (∀ j (hj : j < xs.length), j < k + 1 → exOk xs[j] = true) := Lib.hid fun j hj h => by
            by_cases e : j = k
            · subst e; rw [← HXY.out]; exact HK.out
            · exact HO.out j hj (by omega)
          by_cases hk0 : k = 0
          · have hd : decide (0 < k) = false := by simp; omega
            have hd2 : decide ((0 : Int) < (k : Int)) = false := by simp; omega
            have H3 : Hid (R = (decide (xs.length ≤ 8) && ((List.range xs.length).drop (k + 1)).all (exAt xs))) := Lib.hid (by rw [H2.out, exAt, HN.out, HK.out, exNew]; simp [hk0])
            clear hk0 H2 HO
            go_wp2
            go_quiet ((go_at_call 35; exact Calls.quiet_of_same (l1In_q _ _ _ _)))
            go_wp2
            go_roundw
            case rel => exact ⟨k + 1, by omega, by go_num, HB.out.drewN _, H3, HO2⟩
            case measure => simp [intOf]; omega
          · have hkp : 0 < k := by omega
            have hd : (0 : Int) < (k : Int) := by omega
            have hlt1 : k - 1 < xs.length := by omega
            have p1 := cell_later HB.out (Q4.out (k - 1) hlt1).1
            have p2 := cell_later HB.out (Q4.out (k - 1) hlt1).2
            obtain ⟨⟨px, py⟩, hp⟩ : ∃ e, e = xs[k - 1] := ⟨_, rfl⟩
            have hP := exOk_iff.1 (HO.out (k - 1) hlt1 (by omega))
            rw [← hp] at p1 p2 hP
            simp only at p1 p2 hP
            have HP := Lib.hid (show xs.getD (k - 1) (0, 0) = (px, py) by simp [hlt1, hp])
            obtain ⟨⟨hP1, hP2⟩, hP3, hP4⟩ := hP
            have hk1 : ((k : Int) - 1).toNat = k - 1 := by omega
            have hw1 : IntKind.i64.wrap (px + py) = px + py := IntWalk.i64_in _ (by omega)
            clear hp HO hk0
            by_cases he : ¬ x = px + py
            · have heb : (x == px + py) = false := by simp [he]
              have H3 : Hid (R = (decide (xs.length ≤ 8) && ((List.range xs.length).drop (k + 1)).all (exAt xs))) := Lib.hid (by rw [H2.out, exAt, HN.out, HK.out, exNew, HN.out, HP.out]; simp only [heb]; simp)
              clear he H2
              go_wp2
              go_quiet ((go_at_call 35; exact Calls.quiet_of_same (l1In_q _ _ _ _)))
              go_wp2
              go_roundw
              case rel => exact ⟨k + 1, by omega, by go_num, HB.out.drewN _, H3, HO2⟩
              case measure => simp [intOf]; omega
            · have heb : (x == px + py) = true := by simpa using he
              have H3 : Hid (R = false) := Lib.hid (by simp at he; rw [H2.out, exAt, HN.out, HK.out, exNew, HN.out, HP.out]; simp [he]; omega)
              clear he H2
              go_wp2
              go_quiet ((go_at_call 35; exact Calls.quiet_of_same (l1In_q _ _ _ _)))
              go_wp2
              go_ret
              exact ⟨ret_bool (by rw [H3.out]), HB.out.drewN _⟩
        · have hy' : inB y 1 40 = false := by simpa using hy
          have H3 : Hid (R = false) := Lib.hid (by rw [H2.out, exAt, HN.out, exOk, hy']; simp)
          clear hy H2
          go_wp2
          go_quiet ((go_at_call 35; exact Calls.quiet_of_same (l1In_q _ _ _ _)))
          go_wp2
          go_ret
          exact ⟨ret_bool (by rw [H3.out]), HB.out.drewN _⟩
      · have hx' : inB x 0 1000000 = false := by simpa using hx
        have H3 : Hid (R = false) := Lib.hid (by rw [H2.out, exAt, HN.out, exOk, hx']; simp)
        clear hx H2
        go_wp2
        go_quiet ((go_at_call 35; exact Calls.quiet_of_same (l1In_q _ _ _ _)))
        go_wp2
        go_ret
        exact ⟨ret_bool (by rw [H3.out]), HB.out.drewN _⟩
    · have H3 : Hid (R = decide (xs.length ≤ 8)) := Lib.hid (by rw [H.out, range_end _ _ hlt]; simp)
      go_wp2
      go_ret
      exact ⟨ret_bool (by rw [H3.out]; simp <;> omega), HB.out⟩

end Go.Proofs.Ytepgakaccgnebaa
