/-
  NamesValid, of the program and of the reference.
-/
import Derived.Test.YthhganlnljoinaaNam
namespace Go.Proofs.Ythhganlnljoinaa
open Go.RowKit

theorem l1In_q (n lo hi : Int) (w : World) : Calls Try.prog 33 #[.int .i64 n, .int .i64 lo, .int .i64 hi] w fun e w' => e = .returned (.bool (inB n lo hi)) ∧ w' = w :=
  (l1In_any n lo hi w).mono fun _ _ ⟨h1, h2⟩ => ⟨h1, h2.symm⟩
theorem implBkt (s : ByteArray) (hs : s.size ≤ 9223372036854775807) (w : World) : Calls Try.prog 36 #[.string s] w fun e w' => e = .returned (.int .i64 (bkt s)) ∧ w = w' := implBucket_any s hs w
theorem specBkt (s : ByteArray) (hs : s.size ≤ 9223372036854775807) (w : World) : Calls Try.prog 32 #[.string s] w fun e w' => e = .returned (.int .i64 (bkt s)) ∧ w = w' := specBucket_any s hs w
theorem specBkt_q (s : ByteArray) (hs : s.size ≤ 9223372036854775807) (w : World) : Calls Try.prog 32 #[.string s] w fun e w' => e = .returned (.int .i64 (bkt s)) ∧ w' = w := (specBkt s hs w).mono fun _ _ ⟨h1, h2⟩ => ⟨h1, h2.symm⟩

theorem nameBefore_any (a b : ByteArray) (ha : a.size ≤ 9223372036854775807) (hb : b.size ≤ 9223372036854775807) (w : World) :
    Calls Try.prog 35 #[.string a, .string b] w fun e w' => e = .returned (.bool (bef a b)) ∧ w = w' := by
  by_cases h : bkt a = bkt b
  · have hv : bef a b = sLt a b := by simp [bef, h]
    rw [hv]
    have hne : (bkt a != bkt b) = false := by simp [h]
    clear h hv
    go_enter Try.func35, Try.ntmps35
    go_wp2_with (go_at_call 36; refine (implBkt _ (by assumption) _).mono ?_; rintro e w' ⟨rfl, rfl⟩)
    go_ret
    exact ⟨rfl, rfl⟩
  · have hv : bef a b = decide (bkt a < bkt b) := by simp [bef, h]
    rw [hv]
    have hne : (bkt a != bkt b) = true := by simp [h]
    clear h hv
    go_enter Try.func35, Try.ntmps35
    go_wp2_with (go_at_call 36; refine (implBkt _ (by assumption) _).mono ?_; rintro e w' ⟨rfl, rfl⟩)
    go_ret
    exact ⟨rfl, rfl⟩
theorem nameBefore_q (a b : ByteArray) (ha : a.size ≤ 9223372036854775807) (hb : b.size ≤ 9223372036854775807) (w : World) :
    Calls Try.prog 35 #[.string a, .string b] w fun e w' => e = .returned (.bool (bef a b)) ∧ w' = w := (nameBefore_any a b ha hb w).mono fun _ _ ⟨h1, h2⟩ => ⟨h1, h2.symm⟩

/-- Three counters: of each bucket the names up to here. -/
def Cnt (w : World) (B : Nat) (l : List (ByteArray × Int)) : Prop := ∀ m : Nat, m ≤ 2 → w.cell? ⟨B, m, none⟩ = some (.int .i64 (cnt l m)) ∧ w.frozen? ⟨B, m, none⟩ = false
theorem Cnt.chg {S : Nat → Prop} {w w' : World} {B : Nat} {l : List (ByteArray × Int)} (h : Cnt w B l) (hk : Chg S w w') (hB : B < w.heap.size) (hs : ¬ S B) : Cnt w' B l := fun m hm =>
  ⟨by rw [hk.cell (p := ⟨B, m, none⟩) hB hs]; exact (h m hm).1, by rw [hk.frozen (p := ⟨B, m, none⟩) hB hs]; exact (h m hm).2⟩
theorem Cnt.step {w : World} {B : Nat} {xs : List (ByteArray × Int)} {k : Nat} (h : Cnt w B (xs.take k)) (hk : k < xs.length) {m : Nat} (_hm : m ≤ 2) (hb : bkt xs[k].1 = m) :
    Cnt (w.setCell ⟨B, m, none⟩ (.int .i64 ((cnt (xs.take k) m : Int) + 1))) B (xs.take (k + 1)) := by
  intro j hj
  rw [nm_take_succ hk, cnt_snoc]
  obtain ⟨c1, f1⟩ := h j hj
  by_cases e : m = j
  · subst e
    rw [if_pos hb]
    refine ⟨?_, ?_⟩
    · rw [World.cell?_setCell_same (h := c1)]; simp
    · rw [World.frozen?_setCell]; exact f1
  · rw [if_neg (by rw [hb]; omega)]
    refine ⟨?_, ?_⟩
    · rw [World.cell?_setCell_other (h := (show (⟨B, m, none⟩ : Addr) ≠ ⟨B, j, none⟩ from fun h => e (by cases h; rfl)))]; simpa using c1
    · rw [World.frozen?_setCell]; exact f1

theorem cnt_new (w : World) (t : TypeId) : Cnt (w.alloc (.cells #[.int .i64 0, .int .i64 0, .int .i64 0] t)) w.heap.size ([].take 0) := by
  intro m hm
  have h3 : m = 0 ∨ m = 1 ∨ m = 2 := by omega
  rcases h3 with rfl | rfl | rfl <;> (simp only [World.cell?, World.frozen?, heap_alloc_new]; simp [cnt])
/-- The text ahead. -/
def nmPrev (xs : List (ByteArray × Int)) (k : Nat) : ByteArray := (xs.getD (k - 1) (ByteArray.empty, 0)).1
theorem nmPrev_eq {xs : List (ByteArray × Int)} {k : Nat} (hk : k - 1 < xs.length) : nmPrev xs k = xs[k - 1].1 := by simp [nmPrev, hk]
theorem nm_step {xs : List (ByteArray × Int)} {k : Nat} (hk : k < xs.length) : nmVal (xs.take (k + 1)) = true ↔ nmVal (xs.take k) = true ∧ nmOk xs[k] = true ∧ (0 < k → bef (nmPrev xs k) xs[k].1 = true) ∧ cnt (xs.take k) (bkt xs[k].1) ≤ 2 := by
  rw [nmVal_step hk]
  have e : nmPrev xs k = (xs[k - 1]'(by omega)).1 := nmPrev_eq (by omega)
  rw [e]
theorem nm_fail {xs : List (ByteArray × Int)} {k : Nat} (hk : k < xs.length) (h : nmOk xs[k] = true → (0 < k → bef (nmPrev xs k) xs[k].1 = true) → cnt (xs.take k) (bkt xs[k].1) ≤ 2 → False) : nmVal xs = false := by
  refine nmVal_bad (k := k) ?_
  cases hv : nmVal (xs.take (k + 1)) with
  | false => rfl
  | true =>
    have := (nm_step hk).1 hv
    exact (h this.2.1 this.2.2.1 this.2.2.2).elim
theorem nmOk_iff {e : ByteArray × Int} : nmOk e = true ↔ txt e.1.data.toList = true ∧ 0 ≤ e.2 ∧ e.2 ≤ 7 := by simp [nmOk, inB_iff]

set_option maxHeartbeats 4000000 in
theorem implNmv_any (v : Value) (xs : List (ByteArray × Int)) (lo hi : Nat) (w : World) (h : RN w lo hi v xs) :
    Calls Try.prog 14 #[v] w fun e w' => e = .returned (.bool (nmVal xs)) ∧ Below w.heap.size w w' := by
  obtain ⟨a, cap, b, off, rfl, q1, q2, q3, q4⟩ := h.open
  have Q4 := Lib.hid q4
  have HW := Lib.hid h.2
  clear h q4
  generalize hR : nmVal xs = R
  have HR := Lib.hid hR
  clear hR
  go_enter Try.func14, Try.ntmps14
  go_wp2_with fail
  go_loopw [4, 5, 6, 9] (fun _ _ _ i wr => ∃ k : Nat, k ≤ xs.length ∧ i = .int .i64 k ∧ Below w.heap.size w wr ∧ w.heap.size < wr.heap.size ∧ Hid (nmVal (xs.take k) = true) ∧ Hid (Cnt wr w.heap.size (xs.take k))) (fun _ _ _ i _ => xs.length - (intOf i).toNat)
  case atStart => exact ⟨0, Nat.zero_le _, rfl, (Below.refl _ _).alloc (Nat.le_refl _) _, by simp, Lib.hid (by simpa using nmVal_nil), Lib.hid (cnt_new _ _)⟩
  case round =>
    obtain ⟨k, hk, rfl, hbr, hz, HV, HC⟩ := hrel
    have HB := Lib.hid hbr
    clear hbr
    by_cases hlt : k < xs.length
    · obtain rfl := q3 (by omega)
      have c1 := cell_later HB.out (Q4.out k hlt).1
      have c2 := cell_later HB.out (Q4.out k hlt).2
      have hN := HW.out _ (List.getElem_mem hlt)
      have HF0 := Lib.hid (nm_fail hlt)
      have HG0 := Lib.hid (nm_step (xs := xs) hlt)
      have HK0 := Lib.hid (fun (W : World) (hW : Cnt W w.heap.size (xs.take k)) m hm hb => hW.step hlt (m := m) hm hb)
      have HP := Lib.hid (show ∃ p, p = nmPrev xs k ∧ (0 < k → p.size ≤ 9223372036854775807 ∧ wr.cell? ⟨b, off + (k - 1) * 2, none⟩ = some (.string p)) from ⟨_, rfl, fun h => by rw [nmPrev_eq (by omega)]; exact ⟨(HW.out _ (List.getElem_mem (by omega))).1, cell_later HB.out (Q4.out (k - 1) (by omega)).1⟩⟩)
      clear q3
      obtain ⟨⟨x, y⟩, hxy⟩ : ∃ e, e = xs[k] := ⟨_, rfl⟩
      rw [← hxy] at c1 c2 hN HF0 HG0 HK0
      clear hxy
      obtain ⟨hx9, hy0, hy9⟩ := hN
      simp only at c1 c2 hx9 hy0 hy9 HF0 HG0 HK0
      have HA := Lib.hid (HB.out.alloc (by omega) (.cells #[.string x, .int .i64 y] 33))
      by_cases ht : txt x.data.toList = true
      · by_cases hy : 0 ≤ y ∧ y ≤ 7
        · have HOK := Lib.hid (nmOk_iff.2 (show txt (x, y).1.data.toList = true ∧ 0 ≤ (x, y).2 ∧ (x, y).2 ≤ 7 from ⟨ht, hy⟩))
          obtain ⟨hya, hyb⟩ := hy
          have hbk := bkt_ok ht
          have d1 : decide (y < 0) = false := by simp; omega
          have d2 : decide (8 ≤ y) = false := by simp; omega
          obtain ⟨p, hp, hpp⟩ := HP.out
          rw [← hp] at HF0 HG0
          clear hp HP
          rcases Nat.eq_zero_or_pos k with h0 | h0
          · have hd : decide (0 < k) = false := by simp; omega
            have hd2 : decide ((0 : Int) < (k : Int)) = false := by simp; omega
            have HBF := Lib.hid (show 0 < k → bef p x = true from fun h => by omega)
            clear h0 hpp
            obtain ⟨m, hm⟩ := Int.eq_ofNat_of_zero_le hbk.1
            have hm2 : m ≤ 2 := by omega
            have hm3 : m < 3 := by omega
            obtain ⟨hcm, hfm⟩ := HC.out m hm2
            have hcm' := cell_later (w := wr) ((Below.refl _ _).alloc (Nat.le_refl _) (.cells #[.string x, .int .i64 y] 33)) hcm
            have hck : cnt (xs.take k) m ≤ k := by have := cnt_le (xs.take k) m; simp only [List.length_take] at this; omega
            obtain ⟨c, hc⟩ : ∃ c, c = cnt (xs.take k) m := ⟨_, rfl⟩
            have HCC := Lib.hid hc
            rw [← hc] at hcm hcm' hck
            have HM := Lib.hid hm
            clear hc hbk ht
            have htx : txt x.data.toList = true := by have := HOK.out; exact (nmOk_iff.1 this).1
            have hA2 : ∀ nq, Chg (fun _ => False) wr ((wr.alloc (.cells #[.string x, .int .i64 y] 33)).drewN nq) := fun nq => ((Chg.refl _ wr).alloc _).drewN nq
            have HA2 := Lib.hid hA2
            clear hA2
            by_cases h3 : c ≤ 2
            · have HT := Lib.hid (HG0.out.2 ⟨HV.out, HOK.out, HBF.out, by rw [HM.out, ← HCC.out]; exact h3⟩)
              go_wp2_with (first | (go_at_call 34; refine (implText_any x hx9 _).mono ?_; rintro e w' ⟨rfl, rfl⟩))
              go_quiet (fail)
              have HF := Lib.hid (HK0.out _ (HC.out.chg (HA2.out nq) hz (fun h => h)) m hm2 HM.out)
              rw [← HCC.out] at HF
              have HFB := Lib.hid ((HA.out.drewN nq).setCell (p := ⟨w.heap.size, m, none⟩) (Nat.le_refl _) (.int .i64 ((c : Int) + 1)))
              go_wp2_with (first | (go_at_call 36; refine (implBkt _ (by assumption) _).mono ?_; rintro e w' ⟨rfl, rfl⟩))
              go_roundw
              case rel => exact ⟨k + 1, by omega, by go_num, HFB.out, by simp [World.setCell, World.drewN]; omega, HT, HF⟩
              case measure => simp [intOf]; omega
            · have HF := Lib.hid (show R = false by rw [← HR.out]; exact HF0.out fun _ _ h => h3 (by rw [HM.out, ← HCC.out] at h; exact h))
              go_wp2_with (first | (go_at_call 34; refine (implText_any x hx9 _).mono ?_; rintro e w' ⟨rfl, rfl⟩))
              go_quiet (fail)
              have HFB := Lib.hid ((HA.out.drewN nq).setCell (p := ⟨w.heap.size, m, none⟩) (Nat.le_refl _) (.int .i64 ((c : Int) + 1)))
              go_wp2_with (first | (go_at_call 36; refine (implBkt _ (by assumption) _).mono ?_; rintro e w' ⟨rfl, rfl⟩))
              go_ret
              exact ⟨ret_bool (by rw [HF.out]), HFB.out⟩
          · have hd : (0 : Int) < (k : Int) := by omega
            have hk1 : ((k : Int) - 1).toNat = k - 1 := by omega
            have hlt1 : k - 1 < xs.length := by omega
            obtain ⟨hp9, hcp⟩ := hpp h0
            have hcp' := cell_later (w := wr) ((Below.refl _ _).alloc (Nat.le_refl _) (.cells #[.string x, .int .i64 y] 33)) hcp
            clear hpp
            by_cases hbf : bef p x = true
            · have HBF := Lib.hid (show 0 < k → bef p x = true from fun _ => hbf)
              obtain ⟨m, hm⟩ := Int.eq_ofNat_of_zero_le hbk.1
              have hm2 : m ≤ 2 := by omega
              have hm3 : m < 3 := by omega
              obtain ⟨hcm, hfm⟩ := HC.out m hm2
              have hcm' := cell_later (w := wr) ((Below.refl _ _).alloc (Nat.le_refl _) (.cells #[.string x, .int .i64 y] 33)) hcm
              have hck : cnt (xs.take k) m ≤ k := by have := cnt_le (xs.take k) m; simp only [List.length_take] at this; omega
              obtain ⟨c, hc⟩ : ∃ c, c = cnt (xs.take k) m := ⟨_, rfl⟩
              have HCC := Lib.hid hc
              rw [← hc] at hcm hcm' hck
              have HM := Lib.hid hm
              clear hc hbk ht
              have htx : txt x.data.toList = true := by have := HOK.out; exact (nmOk_iff.1 this).1
              have hA2 : ∀ nq, Chg (fun _ => False) wr ((wr.alloc (.cells #[.string x, .int .i64 y] 33)).drewN nq) := fun nq => ((Chg.refl _ wr).alloc _).drewN nq
              have HA2 := Lib.hid hA2
              clear hA2
              by_cases h3 : c ≤ 2
              · have HT := Lib.hid (HG0.out.2 ⟨HV.out, HOK.out, HBF.out, by rw [HM.out, ← HCC.out]; exact h3⟩)
                go_wp2_with (first | (go_at_call 34; refine (implText_any x hx9 _).mono ?_; rintro e w' ⟨rfl, rfl⟩))
                go_quiet ((go_at_call 35; exact Calls.quiet_of_same (nameBefore_q _ _ (by assumption) (by assumption) _)))
                have HF := Lib.hid (HK0.out _ (HC.out.chg (HA2.out nq) hz (fun h => h)) m hm2 HM.out)
                rw [← HCC.out] at HF
                have HFB := Lib.hid ((HA.out.drewN nq).setCell (p := ⟨w.heap.size, m, none⟩) (Nat.le_refl _) (.int .i64 ((c : Int) + 1)))
                go_wp2_with (first | (go_at_call 36; refine (implBkt _ (by assumption) _).mono ?_; rintro e w' ⟨rfl, rfl⟩))
                go_roundw
                case rel => exact ⟨k + 1, by omega, by go_num, HFB.out, by simp [World.setCell, World.drewN]; omega, HT, HF⟩
                case measure => simp [intOf]; omega
              · have HF := Lib.hid (show R = false by rw [← HR.out]; exact HF0.out fun _ _ h => h3 (by rw [HM.out, ← HCC.out] at h; exact h))
                go_wp2_with (first | (go_at_call 34; refine (implText_any x hx9 _).mono ?_; rintro e w' ⟨rfl, rfl⟩))
                go_quiet ((go_at_call 35; exact Calls.quiet_of_same (nameBefore_q _ _ (by assumption) (by assumption) _)))
                have HFB := Lib.hid ((HA.out.drewN nq).setCell (p := ⟨w.heap.size, m, none⟩) (Nat.le_refl _) (.int .i64 ((c : Int) + 1)))
                go_wp2_with (first | (go_at_call 36; refine (implBkt _ (by assumption) _).mono ?_; rintro e w' ⟨rfl, rfl⟩))
                go_ret
                exact ⟨ret_bool (by rw [HF.out]), HFB.out⟩
            · have hbf' : bef p x = false := by simpa using hbf
              have HF := Lib.hid (show R = false by rw [← HR.out]; exact HF0.out fun _ h _ => hbf (h h0))
              have htx : txt x.data.toList = true := ht
              clear hbf ht hbk
              go_wp2_with (first | (go_at_call 34; refine (implText_any x hx9 _).mono ?_; rintro e w' ⟨rfl, rfl⟩))
              go_quiet ((go_at_call 35; exact Calls.quiet_of_same (nameBefore_q _ _ (by assumption) (by assumption) _)))
              go_wp2_with fail
              go_ret
              exact ⟨ret_bool (by rw [HF.out]), HA.out.drewN _⟩
        · have hF : R = false := by rw [← HR.out]; exact HF0.out fun hok _ _ => hy (nmOk_iff.1 hok).2
          have HF := Lib.hid hF
          clear hF HF0 HG0 HK0 HP
          rcases (show y < 0 ∨ (0 ≤ y ∧ 7 < y) from by omega) with h1 | ⟨h1, h2⟩
          all_goals
            clear hy
            go_wp2_with (go_at_call 34; refine (implText_any x hx9 _).mono ?_; rintro e w' ⟨rfl, rfl⟩)
            all_goals (go_ret; exact ⟨ret_bool (by rw [HF.out]), HA.out⟩)
      · have ht' : txt x.data.toList = false := by simpa using ht
        have hF : R = false := by rw [← HR.out]; exact HF0.out fun hok _ _ => ht (nmOk_iff.1 hok).1
        have HF := Lib.hid hF
        clear hF HF0 HG0 HK0 HP ht
        go_wp2_with (go_at_call 34; refine (implText_any x hx9 _).mono ?_; rintro e w' ⟨rfl, rfl⟩)
        all_goals (go_ret; exact ⟨ret_bool (by rw [HF.out]), HA.out⟩)
    · have HT : Hid (R = true) := Lib.hid (by rw [← HR.out]; have := HV.out; rwa [List.take_of_length_le (by omega)] at this)
      go_wp2_with fail
      go_ret
      exact ⟨ret_bool (by rw [HT.out]), HB.out⟩

/-- In the reference's spelling. -/
theorem leq_yes {a b : ByteArray} (h : sLt a b = true) : (Op.bytesLess b.toList a.toList || (b.toList == a.toList)) = false := by
  have h' : Op.bytesLess a.toList b.toList = true := h
  have h1 : Op.bytesLess b.toList a.toList = false := by
    cases hv : Op.bytesLess b.toList a.toList with
    | false => rfl
    | true => have := bl_trans _ _ _ h' hv; rw [bl_irrefl] at this; exact this.symm
  have h2 : (b.toList == a.toList) = false := by
    rw [beq_eq_false_iff_ne]; intro e; rw [e, bl_irrefl] at h'; exact absurd h' (by decide)
  rw [h1, h2]; rfl
theorem leq_no {a b : ByteArray} (h : sLt a b = false) : (Op.bytesLess b.toList a.toList || (b.toList == a.toList)) = true := by
  have h' : Op.bytesLess a.toList b.toList = false := h
  cases hv : Op.bytesLess b.toList a.toList with
  | true => rfl
  | false => rw [bl_total _ _ h' hv]; simp

set_option maxHeartbeats 4000000 in
theorem specNmv_any (v : Value) (xs : List (ByteArray × Int)) (lo hi : Nat) (w : World) (h : RN w lo hi v xs) :
    Calls Try.prog 12 #[v] w fun e w' => e = .returned (.bool (nmVal xs)) ∧ Below w.heap.size w w' := by
  obtain ⟨a, cap, b, off, rfl, q1, q2, q3, q4⟩ := h.open
  have Q4 := Lib.hid q4
  have HW := Lib.hid h.2
  clear h q4
  generalize hR : nmVal xs = R
  have HR := Lib.hid hR
  clear hR
  go_enter Try.func12, Try.ntmps12
  go_wp2_with fail
  go_loopw [3, 4, 5] (fun i _ _ wr => ∃ k : Nat, k ≤ xs.length ∧ i = .int .i64 k ∧ Below w.heap.size w wr ∧ Hid (nmVal (xs.take k) = true)) (fun i _ _ _ => xs.length - (intOf i).toNat)
  case atStart => exact ⟨0, Nat.zero_le _, rfl, Below.refl _ _, Lib.hid (by simpa using nmVal_nil)⟩
  case round =>
    obtain ⟨k, hk, rfl, hbr, HV⟩ := hrel
    have HB := Lib.hid hbr
    clear hbr
    by_cases hlt : k < xs.length
    · obtain rfl := q3 (by omega)
      have c1 := cell_later HB.out (Q4.out k hlt).1
      have c2 := cell_later HB.out (Q4.out k hlt).2
      have hN := HW.out _ (List.getElem_mem hlt)
      have HF0 := Lib.hid (nm_fail hlt)
      have HG0 := Lib.hid (nm_step (xs := xs) hlt)
      have HC3 := Lib.hid (fun hb => cnt_three hlt HV.out hb)
      have HP := Lib.hid (show ∃ p, p = nmPrev xs k ∧ (0 < k → p.size ≤ 9223372036854775807 ∧ wr.cell? ⟨b, off + (k - 1) * 2, none⟩ = some (.string p)) from ⟨_, rfl, fun h => by rw [nmPrev_eq (by omega)]; exact ⟨(HW.out _ (List.getElem_mem (by omega))).1, cell_later HB.out (Q4.out (k - 1) (by omega)).1⟩⟩)
      have HPE := Lib.hid (show 0 < k → nmPrev xs k = (xs[k - 1]'(by omega)).1 from fun _ => nmPrev_eq (by omega))
      have HQ := Lib.hid (show ∃ p, p = (xs.getD (k - 3) (ByteArray.empty, 0)).1 ∧ (3 ≤ k → p.size ≤ 9223372036854775807 ∧ wr.cell? ⟨b, off + (k - 3) * 2, none⟩ = some (.string p)) from ⟨_, rfl, fun h => by
        have hl : k - 3 < xs.length := by omega
        have e : xs.getD (k - 3) (ByteArray.empty, 0) = xs[k - 3] := by simp [hl]
        rw [e]; exact ⟨(HW.out _ (List.getElem_mem hl)).1, cell_later HB.out (Q4.out (k - 3) hl).1⟩⟩)
      have HC4 : Hid ((0 < k → bef (nmPrev xs k) xs[k].1 = true) → (cnt (xs.take k) (bkt xs[k].1) ≤ 2 ↔ ¬ (3 ≤ k ∧ bkt (xs.getD (k - 3) (ByteArray.empty, 0)).1 = bkt xs[k].1))) := Lib.hid fun hb => HC3.out fun h => by rw [← HPE.out h]; exact hb h
      clear q3 HC3 HPE
      obtain ⟨⟨x, y⟩, hxy⟩ : ∃ e, e = xs[k] := ⟨_, rfl⟩
      rw [← hxy] at c1 c2 hN HF0 HG0 HC4
      clear hxy
      obtain ⟨hx9, hy0, hy9⟩ := hN
      simp only at c1 c2 hx9 hy0 hy9 HF0 HG0 HC4
      obtain ⟨p, hp, hpp⟩ := HP.out
      obtain ⟨p3, hp3, hpp3⟩ := HQ.out
      rw [← hp] at HF0 HG0 HC4
      rw [← hp3] at HC4
      clear hp HP hp3 HQ
      by_cases ht : txt x.data.toList = true
      · by_cases hy : 0 ≤ y ∧ y ≤ 7
        · have HOK := Lib.hid (nmOk_iff.2 (show txt (x, y).1.data.toList = true ∧ 0 ≤ (x, y).2 ∧ (x, y).2 ≤ 7 from ⟨ht, hy⟩))
          have hin := inB_yes hy.1 hy.2
          have hbk := bkt_ok ht
          clear hy ht
          obtain ⟨m, hm⟩ := Int.eq_ofNat_of_zero_le hbk.1
          have HM := Lib.hid hm
          have hm2 : m ≤ 2 := by omega
          clear hbk
          by_cases h3 : 3 ≤ k
          · have hk0 : 0 < k := by omega
            obtain ⟨hp9, hcp⟩ := hpp hk0
            obtain ⟨hp39, hcp3⟩ := hpp3 h3
            have hd : (0 : Int) < (k : Int) := by omega
            have hk1 : ((k : Int) - 1).toNat = k - 1 := by omega
            have hk3 : ((k : Int) - 3).toNat = k - 3 := by omega
            have hlt1 : k - 1 < xs.length := by omega
            have hlt3 : k - 3 < xs.length := by omega
            have h3' : (3 : Int) ≤ (k : Int) := by omega
            clear hpp hpp3
            have H3 := Lib.hid h3
            by_cases hbf : bef p x = true
            · have HBF := Lib.hid (show 0 < k → bef p x = true from fun _ => hbf)
              by_cases he : bkt p3 = m
              · have HF := Lib.hid (show R = false by rw [← HR.out]; exact HF0.out fun _ h h4 => (HC4.out h).1 h4 ⟨H3.out, by rw [HM.out]; exact he⟩)
                have heb : (bkt p3 == (m : Int)) = true := by simp [he]
                clear he
                obtain ⟨pb, hpb⟩ : ∃ pb, pb = bkt p := ⟨_, rfl⟩
                have hbf2 : (pb = (m : Int) ∧ sLt p x = true) ∨ pb < (m : Int) := by
                  have h := hbf
                  unfold bef at h
                  rw [← hpb, HM.out] at h
                  split at h
                  · rename_i e; exact .inl ⟨e, h⟩
                  · exact .inr (by simpa using h)
                have hpb' := hpb.symm
                clear hbf hpb
                rcases hbf2 with ⟨h5, h6⟩ | h5
                · have HPB := Lib.hid h5
                  have h5' : decide (m < m) = false := by simp
                  have hle := leq_yes h6
                  rw [h5] at hpb'
                  clear h5 h6
                  go_wp2_with (first | (go_at_call 32; refine (specBkt _ (by assumption) _).mono ?_; rintro e w' ⟨rfl, rfl⟩) | (go_at_call 33; refine (l1In_any _ _ _ _).mono ?_; rintro e w' ⟨rfl, rfl⟩))
                  go_quiet (fail)
                  go_wp2_with (first | (go_at_call 32; refine (specBkt _ (by assumption) _).mono ?_; rintro e w' ⟨rfl, rfl⟩) | (go_at_call 33; refine (l1In_any _ _ _ _).mono ?_; rintro e w' ⟨rfl, rfl⟩))
                  go_ret
                  exact ⟨ret_bool (by rw [HF.out]), by first | exact HB.out | exact HB.out.drewN _⟩
                · have h7 : (pb == (m : Int)) = false := by simp; omega
                  have h8 : decide ((m : Int) < pb) = false := by simp; omega
                  go_wp2_with (first | (go_at_call 32; refine (specBkt _ (by assumption) _).mono ?_; rintro e w' ⟨rfl, rfl⟩) | (go_at_call 33; refine (l1In_any _ _ _ _).mono ?_; rintro e w' ⟨rfl, rfl⟩))
                  go_quiet (fail)
                  go_wp2_with (first | (go_at_call 32; refine (specBkt _ (by assumption) _).mono ?_; rintro e w' ⟨rfl, rfl⟩) | (go_at_call 33; refine (l1In_any _ _ _ _).mono ?_; rintro e w' ⟨rfl, rfl⟩))
                  go_ret
                  exact ⟨ret_bool (by rw [HF.out]), by first | exact HB.out | exact HB.out.drewN _⟩
              · have HT := Lib.hid (HG0.out.2 ⟨HV.out, HOK.out, HBF.out, (HC4.out HBF.out).2 (fun h => he (by rw [h.2, HM.out]))⟩)
                have heb : (bkt p3 == (m : Int)) = false := by simp [he]
                clear he
                obtain ⟨pb, hpb⟩ : ∃ pb, pb = bkt p := ⟨_, rfl⟩
                have hbf2 : (pb = (m : Int) ∧ sLt p x = true) ∨ pb < (m : Int) := by
                  have h := hbf
                  unfold bef at h
                  rw [← hpb, HM.out] at h
                  split at h
                  · rename_i e; exact .inl ⟨e, h⟩
                  · exact .inr (by simpa using h)
                have hpb' := hpb.symm
                clear hbf hpb
                rcases hbf2 with ⟨h5, h6⟩ | h5
                · have HPB := Lib.hid h5
                  have h5' : decide (m < m) = false := by simp
                  have hle := leq_yes h6
                  rw [h5] at hpb'
                  clear h5 h6
                  go_wp2_with (first | (go_at_call 32; refine (specBkt _ (by assumption) _).mono ?_; rintro e w' ⟨rfl, rfl⟩) | (go_at_call 33; refine (l1In_any _ _ _ _).mono ?_; rintro e w' ⟨rfl, rfl⟩))
                  go_quiet (fail)
                  go_wp2_with (first | (go_at_call 32; refine (specBkt _ (by assumption) _).mono ?_; rintro e w' ⟨rfl, rfl⟩) | (go_at_call 33; refine (l1In_any _ _ _ _).mono ?_; rintro e w' ⟨rfl, rfl⟩))
                  go_roundw
                  case rel => exact ⟨k + 1, by omega, by go_num, by first | exact HB.out | exact HB.out.drewN _, HT⟩
                  case measure => simp [intOf]; omega
                · have h7 : (pb == (m : Int)) = false := by simp; omega
                  have h8 : decide ((m : Int) < pb) = false := by simp; omega
                  go_wp2_with (first | (go_at_call 32; refine (specBkt _ (by assumption) _).mono ?_; rintro e w' ⟨rfl, rfl⟩) | (go_at_call 33; refine (l1In_any _ _ _ _).mono ?_; rintro e w' ⟨rfl, rfl⟩))
                  go_quiet (fail)
                  go_wp2_with (first | (go_at_call 32; refine (specBkt _ (by assumption) _).mono ?_; rintro e w' ⟨rfl, rfl⟩) | (go_at_call 33; refine (l1In_any _ _ _ _).mono ?_; rintro e w' ⟨rfl, rfl⟩))
                  go_roundw
                  case rel => exact ⟨k + 1, by omega, by go_num, by first | exact HB.out | exact HB.out.drewN _, HT⟩
                  case measure => simp [intOf]; omega
            · have HF := Lib.hid (show R = false by rw [← HR.out]; exact HF0.out fun _ h _ => hbf (h hk0))
              obtain ⟨pb, hpb⟩ : ∃ pb, pb = bkt p := ⟨_, rfl⟩
              have hbf2 : (pb = (m : Int) ∧ sLt p x = false) ∨ (m : Int) < pb := by
                have h : bef p x = false := by simpa using hbf
                unfold bef at h
                rw [← hpb, HM.out] at h
                split at h
                · rename_i e; exact .inl ⟨e, h⟩
                · simp only [decide_eq_false_iff_not] at h; exact .inr (by omega)
              have hpb' := hpb.symm
              clear hbf hpb
              rcases hbf2 with ⟨h5, h6⟩ | h5
              · have hle := leq_no h6
                rw [h5] at hpb'
                clear h5 h6
                go_wp2_with (first | (go_at_call 32; refine (specBkt _ (by assumption) _).mono ?_; rintro e w' ⟨rfl, rfl⟩) | (go_at_call 33; refine (l1In_any _ _ _ _).mono ?_; rintro e w' ⟨rfl, rfl⟩))
                go_quiet (fail)
                go_wp2_with (first | (go_at_call 32; refine (specBkt _ (by assumption) _).mono ?_; rintro e w' ⟨rfl, rfl⟩) | (go_at_call 33; refine (l1In_any _ _ _ _).mono ?_; rintro e w' ⟨rfl, rfl⟩))
                go_ret
                exact ⟨ret_bool (by rw [HF.out]), HB.out.drewN _⟩
              · go_wp2_with (first | (go_at_call 32; refine (specBkt _ (by assumption) _).mono ?_; rintro e w' ⟨rfl, rfl⟩) | (go_at_call 33; refine (l1In_any _ _ _ _).mono ?_; rintro e w' ⟨rfl, rfl⟩))
                go_quiet (fail)
                go_wp2_with (first | (go_at_call 32; refine (specBkt _ (by assumption) _).mono ?_; rintro e w' ⟨rfl, rfl⟩) | (go_at_call 33; refine (l1In_any _ _ _ _).mono ?_; rintro e w' ⟨rfl, rfl⟩))
                go_ret
                exact ⟨ret_bool (by rw [HF.out]), HB.out.drewN _⟩
          · have h3' : decide (3 ≤ k) = false := by simp; omega
            have h3'' : decide ((3 : Int) ≤ (k : Int)) = false := by simp; omega
            by_cases hk0 : 0 < k
            · obtain ⟨hp9, hcp⟩ := hpp hk0
              have hd : (0 : Int) < (k : Int) := by omega
              have hk1 : ((k : Int) - 1).toNat = k - 1 := by omega
              have hlt1 : k - 1 < xs.length := by omega
              have H3 := Lib.hid h3
              clear hpp hpp3
              by_cases hbf : bef p x = true
              · have HBF := Lib.hid (show 0 < k → bef p x = true from fun _ => hbf)
                have HT := Lib.hid (HG0.out.2 ⟨HV.out, HOK.out, HBF.out, (HC4.out HBF.out).2 (fun h => H3.out h.1)⟩)
                obtain ⟨pb, hpb⟩ : ∃ pb, pb = bkt p := ⟨_, rfl⟩
                have hbf2 : (pb = (m : Int) ∧ sLt p x = true) ∨ pb < (m : Int) := by
                  have h := hbf
                  unfold bef at h
                  rw [← hpb, HM.out] at h
                  split at h
                  · rename_i e; exact .inl ⟨e, h⟩
                  · exact .inr (by simpa using h)
                have hpb' := hpb.symm
                clear hbf hpb
                rcases hbf2 with ⟨h5, h6⟩ | h5
                · have HPB := Lib.hid h5
                  have h5' : decide (m < m) = false := by simp
                  have hle := leq_yes h6
                  rw [h5] at hpb'
                  clear h5 h6
                  go_wp2_with (first | (go_at_call 32; refine (specBkt _ (by assumption) _).mono ?_; rintro e w' ⟨rfl, rfl⟩) | (go_at_call 33; refine (l1In_any _ _ _ _).mono ?_; rintro e w' ⟨rfl, rfl⟩))
                  go_quiet (fail)
                  go_wp2_with (first | (go_at_call 32; refine (specBkt _ (by assumption) _).mono ?_; rintro e w' ⟨rfl, rfl⟩) | (go_at_call 33; refine (l1In_any _ _ _ _).mono ?_; rintro e w' ⟨rfl, rfl⟩))
                  go_roundw
                  case rel => exact ⟨k + 1, by omega, by go_num, by first | exact HB.out | exact HB.out.drewN _, HT⟩
                  case measure => simp [intOf]; omega
                · have h7 : (pb == (m : Int)) = false := by simp; omega
                  have h8 : decide ((m : Int) < pb) = false := by simp; omega
                  go_wp2_with (first | (go_at_call 32; refine (specBkt _ (by assumption) _).mono ?_; rintro e w' ⟨rfl, rfl⟩) | (go_at_call 33; refine (l1In_any _ _ _ _).mono ?_; rintro e w' ⟨rfl, rfl⟩))
                  go_quiet (fail)
                  go_wp2_with (first | (go_at_call 32; refine (specBkt _ (by assumption) _).mono ?_; rintro e w' ⟨rfl, rfl⟩) | (go_at_call 33; refine (l1In_any _ _ _ _).mono ?_; rintro e w' ⟨rfl, rfl⟩))
                  go_roundw
                  case rel => exact ⟨k + 1, by omega, by go_num, by first | exact HB.out | exact HB.out.drewN _, HT⟩
                  case measure => simp [intOf]; omega
              · have HF := Lib.hid (show R = false by rw [← HR.out]; exact HF0.out fun _ h _ => hbf (h hk0))
                obtain ⟨pb, hpb⟩ : ∃ pb, pb = bkt p := ⟨_, rfl⟩
                have hbf2 : (pb = (m : Int) ∧ sLt p x = false) ∨ (m : Int) < pb := by
                  have h : bef p x = false := by simpa using hbf
                  unfold bef at h
                  rw [← hpb, HM.out] at h
                  split at h
                  · rename_i e; exact .inl ⟨e, h⟩
                  · simp only [decide_eq_false_iff_not] at h; exact .inr (by omega)
                have hpb' := hpb.symm
                clear hbf hpb
                rcases hbf2 with ⟨h5, h6⟩ | h5
                · have hle := leq_no h6
                  rw [h5] at hpb'
                  clear h5 h6
                  go_wp2_with (first | (go_at_call 32; refine (specBkt _ (by assumption) _).mono ?_; rintro e w' ⟨rfl, rfl⟩) | (go_at_call 33; refine (l1In_any _ _ _ _).mono ?_; rintro e w' ⟨rfl, rfl⟩))
                  go_quiet (fail)
                  go_wp2_with (first | (go_at_call 32; refine (specBkt _ (by assumption) _).mono ?_; rintro e w' ⟨rfl, rfl⟩) | (go_at_call 33; refine (l1In_any _ _ _ _).mono ?_; rintro e w' ⟨rfl, rfl⟩))
                  go_ret
                  exact ⟨ret_bool (by rw [HF.out]), HB.out.drewN _⟩
                · go_wp2_with (first | (go_at_call 32; refine (specBkt _ (by assumption) _).mono ?_; rintro e w' ⟨rfl, rfl⟩) | (go_at_call 33; refine (l1In_any _ _ _ _).mono ?_; rintro e w' ⟨rfl, rfl⟩))
                  go_quiet (fail)
                  go_wp2_with (first | (go_at_call 32; refine (specBkt _ (by assumption) _).mono ?_; rintro e w' ⟨rfl, rfl⟩) | (go_at_call 33; refine (l1In_any _ _ _ _).mono ?_; rintro e w' ⟨rfl, rfl⟩))
                  go_ret
                  exact ⟨ret_bool (by rw [HF.out]), HB.out.drewN _⟩
            · have hd : decide (0 < k) = false := by simp; omega
              have hd2 : decide ((0 : Int) < (k : Int)) = false := by simp; omega
              have HT := Lib.hid (HG0.out.2 ⟨HV.out, HOK.out, fun h => absurd h hk0, (HC4.out (fun h => absurd h hk0)).2 (fun h => h3 h.1)⟩)
              clear hpp hpp3
              go_wp2_with (first | (go_at_call 32; refine (specBkt _ (by assumption) _).mono ?_; rintro e w' ⟨rfl, rfl⟩) | (go_at_call 33; refine (l1In_any _ _ _ _).mono ?_; rintro e w' ⟨rfl, rfl⟩))
              go_roundw
              case rel => exact ⟨k + 1, by omega, by go_num, HB.out, HT⟩
              case measure => simp [intOf]; omega
        · have HF := Lib.hid (show R = false by rw [← HR.out]; exact HF0.out fun hok _ _ => hy (nmOk_iff.1 hok).2)
          have hin : inB y 0 7 = false := inB_no (by omega)
          have hbk := bkt_ok ht
          obtain ⟨m, hm⟩ := Int.eq_ofNat_of_zero_le hbk.1
          clear hy ht hbk
          go_wp2_with (first | (go_at_call 32; refine (specBkt _ (by assumption) _).mono ?_; rintro e w' ⟨rfl, rfl⟩) | (go_at_call 33; refine (l1In_any _ _ _ _).mono ?_; rintro e w' ⟨rfl, rfl⟩))
          go_ret
          exact ⟨ret_bool (by rw [HF.out]), HB.out⟩
      · have ht' : txt x.data.toList = false := by simpa using ht
        have HF := Lib.hid (show R = false by rw [← HR.out]; exact HF0.out fun hok _ _ => ht (nmOk_iff.1 hok).1)
        have hbk := bkt_no ht'
        clear ht ht'
        go_wp2_with (first | (go_at_call 32; refine (specBkt _ (by assumption) _).mono ?_; rintro e w' ⟨rfl, rfl⟩) | (go_at_call 33; refine (l1In_any _ _ _ _).mono ?_; rintro e w' ⟨rfl, rfl⟩))
        go_ret
        exact ⟨ret_bool (by rw [HF.out]), HB.out⟩
    · have HT : Hid (R = true) := Lib.hid (by rw [← HR.out]; have := HV.out; rwa [List.take_of_length_le (by omega)] at this)
      go_wp2_with fail
      go_ret
      exact ⟨ret_bool (by rw [HT.out]), HB.out⟩

end Go.Proofs.Ythhganlnljoinaa
