/-
  sameExtents on equal lists; the plain law: numbers to extents and back.
-/
import Derived.Test.YtepgakaccgnebaaExq
namespace Go.Proofs.Ytepgakaccgnebaa
open Go.RowKit

set_option maxHeartbeats 1000000 in
theorem sameExtents_any (v v2 : Value) (xs : List (Int × Int)) (lo hi lo2 hi2 : Nat) (w : World) (h : RX w lo hi v xs) (h2 : RX w lo2 hi2 v2 xs) (hx : xs.length ≤ 1048576) :
    Calls Try.prog 30 #[v, v2] w fun e w' => e = .returned (.bool true) ∧ Below w.heap.size w w' := by
  obtain ⟨a, cap, b, off, rfl, q1, q2, q3, q4⟩ := h.open
  obtain ⟨a', cap', b', off', rfl, r1, r2, r3, r4⟩ := h2.open
  have Q4 := Lib.hid q4
  have R4 := Lib.hid r4
  clear h h2 q4 r4
  go_enter Try.func30, Try.ntmps30
  go_wp2
  go_loopw [5] (fun i wr => ∃ (k n : Nat), k ≤ xs.length ∧ i = .int .i64 k ∧ wr = w.drewN n) (fun i _ => xs.length - (intOf i).toNat)
  case atStart => exact ⟨0, 0, Nat.zero_le _, rfl, rfl⟩
  case round =>
    obtain ⟨k, n, hk, rfl, rfl⟩ := hrel
    by_cases hlt : k < xs.length
    · obtain rfl := q3 (by omega)
      obtain rfl := r3 (by omega)
      obtain ⟨c1, c2⟩ := Q4.out k hlt
      obtain ⟨c3, c4⟩ := R4.out k hlt
      clear q3 r3
      go_wp2
      go_quiet (fail)
      go_wp2
      go_roundw
      case rel => exact ⟨k + 1, n + nq, by omega, by go_num, by simp⟩
      case measure => simp [intOf]; omega
    · go_wp2
      go_ret
      exact ⟨rfl, bdN _ _⟩

theorem lastE_snoc (l : List (Int × Int)) (e : Int × Int) : lastE (l ++ [e]) = e := by simp [lastE]
theorem sGo_append (acc : List (Int × Int)) (xs ys : List Int) : sGo acc (xs ++ ys) = sGo (sGo acc xs) ys := by simp [sGo]

/-- Within a run. -/
theorem sGo_run (l : List (Int × Int)) (f : Int) (m j : Nat) (h0 : 0 ≤ f) (h1 : f ≤ 1000000) (hm : m ≤ 40) (hj : 1 ≤ j) (hjm : j ≤ m) : sGo (l ++ [(f, (j : Int))]) (seg f m j) = l ++ [(f, (m : Int))] := by
  by_cases h : j < m
  · rw [seg_cons f m j h]
    show sGo (sStep (l ++ [(f, (j : Int))]) (f + j)) (seg f m (j + 1)) = _
    have hs : sExt (l ++ [(f, (j : Int))]) (f + j) = true := by
      have hne : (l ++ [(f, (j : Int))]).isEmpty = false := by cases l <;> rfl
      have hi : inB (f + (j : Int)) 0 1000040 = true := inB_iff.2 (by omega)
      rw [sExt, lastE_snoc, hne, hi, w64_of (by omega) (by omega)]
      simp
    rw [sStep, if_pos hs, bump_snoc]
    have := sGo_run l f m (j + 1) h0 h1 hm (by omega) (by omega)
    simpa using this
  · rw [seg_end f m j h]
    have : j = m := by omega
    subst this
    rfl
termination_by m - j
/-- A whole extent behind others. -/
theorem sGo_ext (acc : List (Int × Int)) (e : Int × Int) (he : exOk e = true) (hn : acc = [] ∨ (exOk (lastE acc) = true ∧ e.1 ≠ (lastE acc).1 + (lastE acc).2)) :
    sGo acc (seg e.1 e.2.toNat 0) = acc ++ [e] := by
  obtain ⟨f, m⟩ := e
  have h := exOk_iff.1 he
  simp only at h hn ⊢
  obtain ⟨⟨h0, h1⟩, h2, h3⟩ := h
  obtain ⟨m, rfl⟩ := Int.eq_ofNat_of_zero_le (show 0 ≤ m by omega)
  rw [Int.toNat_natCast, seg_cons f m 0 (by omega)]
  show sGo (sStep acc (f + ((0 : Nat) : Int))) (seg f m 1) = _
  have hs : sExt acc (f + ((0 : Nat) : Int)) = false := by
    rcases hn with rfl | ⟨hl, hne⟩
    · rfl
    · have hb := exOk_iff.1 hl
      rw [sExt, w64_of (by omega) (by omega)]
      have : (f + ((0 : Nat) : Int) == (lastE acc).1 + (lastE acc).2) = false := by simpa using hne
      rw [this]; simp
  rw [sStep, if_neg (by rw [hs]; simp)]
  have := sGo_run acc f m 1 h0 h1 (by omega) (by omega) (by omega)
  simpa using this
theorem sGo_nums (xs : List (Int × Int)) (hv : exVal xs = true) (k : Nat) (hk : k ≤ xs.length) : sGo [] (exNums (xs.take k)) = xs.take k := by
  induction k with
  | zero => simp [exNums, sGo]
  | succ k ih =>
    have hlt : k < xs.length := by omega
    have ht : xs.take (k + 1) = xs.take k ++ [xs[k]] := by rw [List.take_succ_eq_append_getElem hlt]
    have hn : exNums (xs.take (k + 1)) = exNums (xs.take k) ++ seg xs[k].1 xs[k].2.toNat 0 := by rw [ht]; simp only [exNums, List.flatMap_append, List.flatMap_cons, List.flatMap_nil, List.append_nil]
    rw [hn, sGo_append, ih (by omega), ht]
    have hok := (exVal_ok hv).2
    refine sGo_ext _ _ (hok k hlt) ?_
    by_cases h0 : k = 0
    · subst h0; left; simp
    · right
      have hlast : lastE (xs.take k) = xs[k - 1]'(by omega) := by
        have e : xs.take k = xs.take (k - 1) ++ [xs[k - 1]'(by omega)] := by
          have := List.take_succ_eq_append_getElem (l := xs) (i := k - 1) (by omega)
          rwa [show k - 1 + 1 = k by omega] at this
        rw [e, lastE_snoc]
      rw [hlast]
      refine ⟨hok (k - 1) (by omega), ?_⟩
      simp only [exVal, Bool.and_eq_true, decide_eq_true_eq, List.all_eq_true, List.mem_range] at hv
      have := hv.2 k hlt
      simp only [exAt, exNew, Bool.and_eq_true, Bool.or_eq_true, decide_eq_true_eq, Bool.not_eq_true', beq_eq_false_iff_ne] at this
      rcases this.2 with h | h
      · exact absurd h h0
      · have e1 : xs.getD k (0, 0) = xs[k] := by simp [hlt]
        have e2 : xs.getD (k - 1) (0, 0) = xs[k - 1]'(by omega) := by simp [show k - 1 < xs.length by omega]
        rw [e1, e2] at h
        exact h
/-- To numbers and back. -/
theorem exOf_list {xs : List (Int × Int)} (hv : exVal xs = true) : exOf (exList xs) = (xs, true) := by
  have := sGo_nums xs hv xs.length (Nat.le_refl _)
  rw [List.take_length] at this
  rw [exList, if_pos hv, exOf, this, fin, if_pos hv]

/-- Of runs: what lies in them. -/
theorem sStep_nums (acc : List (Int × Int)) (x : Int) (_hx : I64 x) (h : ∀ e ∈ acc, I64 e.1 ∧ 1 ≤ e.2 ∧ e.2 ≤ 1000000000) : exNums (sStep acc x) = exNums acc ++ [x] := by
  unfold sStep
  split
  · rename_i hs
    simp only [sExt, Bool.and_eq_true, Bool.not_eq_true', beq_iff_eq] at hs
    obtain ⟨⟨hne, he⟩, hb⟩ := hs
    have hb' := inB_iff.1 hb
    have hacc : acc ≠ [] := by rintro rfl; simp at hne
    obtain ⟨l, ⟨f, m⟩, rfl⟩ : ∃ l e, acc = l ++ [e] := ⟨_, _, dropLast_last hacc⟩
    rw [lastE_snoc] at he
    simp only at he
    obtain ⟨hf, hm1, hm2⟩ := h (f, m) (by simp)
    simp only at hf hm1 hm2
    have hx' : x = f + m := by
      by_cases h1 : f + m ≤ 9223372036854775807
      · rw [he, w64_of (by have := hf.1; omega) h1]
      · exfalso
        have h2 := hf.2
        have : w64 (f + m) = f + m - 18446744073709551616 := by
          unfold w64; rw [IntKind.wrap_i64]; omega
        rw [this] at he
        omega
    rw [bump_snoc]
    obtain ⟨m, rfl⟩ := Int.eq_ofNat_of_zero_le (show 0 ≤ m by omega)
    have e1 : seg f ((m : Int) + 1).toNat 0 = seg f m 0 ++ [f + (m : Int)] := by
      rw [show ((m : Int) + 1).toNat = m + 1 by omega]
      simp [seg, List.range_succ]
    simp only [exNums, List.flatMap_append, List.flatMap_cons, List.flatMap_nil, List.append_nil, e1, Int.toNat_natCast, hx', List.append_assoc]
  · simp [exNums, seg]
theorem sStep_ok (acc : List (Int × Int)) (x : Int) (hx : I64 x) (N : Int) (hN : 0 ≤ N) (h : ∀ e ∈ acc, I64 e.1 ∧ 1 ≤ e.2 ∧ e.2 ≤ N) : ∀ e ∈ sStep acc x, I64 e.1 ∧ 1 ≤ e.2 ∧ e.2 ≤ N + 1 := by
  unfold sStep
  split
  · rename_i hs
    have hacc : acc ≠ [] := by rintro rfl; simp [sExt] at hs
    obtain ⟨l, ⟨f, m⟩, rfl⟩ : ∃ l e, acc = l ++ [e] := ⟨_, _, dropLast_last hacc⟩
    rw [bump_snoc]
    intro e he
    rcases List.mem_append.1 he with he | he
    · have := h e (by simp [he]); exact ⟨this.1, this.2.1, by omega⟩
    · simp at he; subst he
      have := h (f, m) (by simp)
      simp only at this ⊢
      exact ⟨this.1, by omega, by omega⟩
  · intro e he
    rcases List.mem_append.1 he with he | he
    · have := h e he; exact ⟨this.1, this.2.1, by omega⟩
    · simp at he; subst he
      exact ⟨hx, by simp, by simp only; omega⟩
theorem sGo_all (acc : List (Int × Int)) (xs : List Int) (hx : I64s xs) (N : Nat) (h : ∀ e ∈ acc, I64 e.1 ∧ 1 ≤ e.2 ∧ e.2 ≤ N) (hN : N + xs.length ≤ 1000000000) :
    exNums (sGo acc xs) = exNums acc ++ xs ∧ (sGo acc xs).length ≤ acc.length + xs.length := by
  induction xs generalizing acc N with
  | nil => simp [sGo]
  | cons x xs ih =>
    simp only [List.length_cons] at hN
    have hx0 := hx x (by simp)
    have h1 := sStep_nums acc x hx0 (fun e he => ⟨(h e he).1, (h e he).2.1, by have := (h e he).2.2; omega⟩)
    have h2 := sStep_ok acc x hx0 N (by omega) h
    have h3 := ih (sStep acc x) (fun y hy => hx y (by simp [hy])) (N + 1) (by simpa using h2) (by omega)
    have h4 : (sStep acc x).length ≤ acc.length + 1 := by
      unfold sStep; split
      · simp [bump]
      · simp
    show exNums (sGo (sStep acc x) xs) = _ ∧ (sGo (sStep acc x) xs).length ≤ _
    rw [h1] at h3
    refine ⟨by rw [h3.1]; simp, ?_⟩
    simp only [List.length_cons]
    omega
theorem exOf_back {xs : List Int} (hx : I64s xs) (hl : xs.length ≤ 1000000) (h : (exOf xs).2 = true) : exVal (exOf xs).1 = true ∧ exList (exOf xs).1 = xs ∧ (exOf xs).1.length ≤ xs.length := by
  have hall := sGo_all [] xs hx 0 (fun e he => by simp at he) (by omega)
  unfold exOf fin at h ⊢
  split at h
  · rename_i hv
    rw [if_pos hv]
    refine ⟨hv, ?_, by simpa using hall.2⟩
    simp only [exList]
    rw [if_pos hv, hall.1]; simp [exNums]
  · simp at h
theorem exOf_no {xs : List Int} (h : (exOf xs).2 = false) : (exOf xs).1 = [] := by
  unfold exOf fin at h ⊢
  split at h <;> simp_all

end Go.Proofs.Ytepgakaccgnebaa
