/-
  The walk of the law FnPutName.
-/
import Derived.Test.YthhganlnljoinaaLfNmf
namespace Go.Proofs.Ythhganlnljoinaa
open Go.RowKit

theorem nmPut_no {xs : List (ByteArray × Int)} {n : ByteArray × Int} (h : (nmPut xs n).2 = false) : (nmPut xs n).1 = xs ∨ ((nmPut xs n).1 = [] ∧ 0 < xs.length) := by
  unfold nmPut at h ⊢
  by_cases hv : nmVal xs = true
  · rw [if_pos hv] at h ⊢
    by_cases hi : nmVal (nmIns xs (nmPs xs n.1) n) = true
    · rw [if_pos hi] at h; cases h
    · rw [if_neg hi]; exact .inl rfl
  · rw [if_neg hv]
    refine .inr ⟨rfl, ?_⟩
    rcases xs with _ | ⟨e, r⟩
    · exact absurd nmVal_nil hv
    · simp
theorem nmPut_yes {xs : List (ByteArray × Int)} {n : ByteArray × Int} (h : (nmPut xs n).2 = true) : nmVal (nmPut xs n).1 = true ∧ nmFind (nmPut xs n).1 n.1 = n.2 ∧ nmDrop (nmPut xs n).1 n.1 = (xs, true) := by
  unfold nmPut at h ⊢
  by_cases hv : nmVal xs = true
  · rw [if_pos hv] at h ⊢
    by_cases hi : nmVal (nmIns xs (nmPs xs n.1) n) = true
    · rw [if_pos hi]
      refine ⟨hi, nmFind_ins hi, ?_⟩
      rw [nmDrop, if_pos hi, nmWo_ins hi, nmIns_len]
      simp
    · rw [if_neg hi] at h; cases h
  · rw [if_neg hv] at h; cases h
theorem box2_keep {w w' : World} {B : Nat} {o : Obj} (h : w.heap[B]? = some o) (c : Below w.heap.size w w') : w'.heap[B]? = some o :=
  (c.block B (Array.getElem?_eq_some_iff.1 h).1).trans h
theorem bup3 {a b c : World} (h : Below a.heap.size a b) (k : Below b.heap.size b c) : Below a.heap.size a c := bup h (Nat.le_refl _) k
theorem balloc3 (w : World) (o : Obj) : Below w.heap.size w (w.alloc o) := (Below.refl _ _).alloc (Nat.le_refl _) o
theorem implPutF (v : Value) (xs : List (ByteArray × Int)) (n : ByteArray × Int) (hn : N64 n) (lo : Nat) (w : World) (h : ON w lo v xs) (hv : v ≠ .slice none 0 0) (hx : xs.length ≤ 1048576) :
    Calls Try.prog 30 #[v, .agg #[.string n.1, .int .i64 n.2]] w (PutPost xs n w) := by
  obtain ⟨g, cap, rfl⟩ := on_form h hv
  exact implPut_any g 0 cap xs n hn _ _ w h.rn hx

set_option maxHeartbeats 2000000 in
theorem FnPutName_walk (w : World) (v : Value) (bs : List Int) (h : RB w 0 w.heap.size v bs) :
    Calls Try.prog 10 #[v] w fun e w' => e = .returned (.bool true) ∧ Below w.heap.size w w' := by
  have H := Lib.hid h
  obtain ⟨a, cap, b, off, rfl, -⟩ := h.open
  clear h
  by_cases hl : bs.length ≤ 1048576
  · go_enter Try.func10, Try.ntmps10
    go_wp2_with fail
    refine (drawPutName _ _ bs H.out).mono ?_
    rintro e w1 ⟨v, xs, s, f, rfl, hx, hn, ⟨o1, hnn⟩, b1⟩
    have HN := Lib.hid hn
    have HNN := Lib.hid hnn
    have hs9 : s.size ≤ 9223372036854775807 := hn.1
    have hle := nmPut_len xs (s, f)
    have O := Lib.hid (o1.below (balloc3 w1 (.cells #[.string s, .int .i64 f] 33)))
    have B := Lib.hid (bup3 b1 (balloc3 w1 (.cells #[.string s, .int .i64 f] 33)))
    have X := Lib.hid (heap_alloc_new w1 (.cells #[.string s, .int .i64 f] 33))
    clear o1 b1 hnn hn
    go_wp2_with fail
    refine (implPutF v xs (s, f) HN.out _ _ O.out HNN.out (by omega)).mono ?_
    rintro e w2 ⟨v2, rfl, o2, c⟩
    replace O := Lib.hid (O.out.below c)
    have O2 := Lib.hid o2
    replace B := Lib.hid (bup3 B.out c)
    replace X := Lib.hid (box2_keep X.out c)
    obtain ⟨hb0, hb1⟩ := box_at X.out
    clear c o2
    go_wp2_with fail
    refine (specPutN v xs (s, f) HN.out _ _ O.out HNN.out (by omega)).mono ?_
    rintro e w3 ⟨v3, rfl, ⟨o3, -⟩, c⟩
    replace O := Lib.hid (O.out.below c)
    replace O2 := Lib.hid (O2.out.below c)
    have O3 := Lib.hid o3
    replace B := Lib.hid (bup3 B.out c)
    replace X := Lib.hid (box2_keep X.out c)
    obtain ⟨ok, hok⟩ : ∃ ok, ok = (nmPut xs (s, f)).2 := ⟨_, rfl⟩
    have HOK := Lib.hid hok
    clear hok c o3 hb0 hb1
    rw [← HOK.out]
    have hbb : (ok != ok) = false := by simp
    go_wp2_with fail
    refine (sameNames_any _ _ (nmPut xs (s, f)).1 _ _ _ _ _ O2.out.rn O3.out.rn (by omega)).mono ?_
    rintro e w4 ⟨rfl, c⟩
    replace O := Lib.hid (O.out.below c)
    replace O2 := Lib.hid (O2.out.below c)
    replace B := Lib.hid (bup3 B.out c)
    replace X := Lib.hid (box2_keep X.out c)
    clear c
    cases ok
    · rcases nmPut_no HOK.out.symm with he | ⟨he, hpos⟩
      · rw [he] at O2
        clear he
        go_wp2_with fail
        refine (sameNames_any _ _ xs _ _ _ _ _ O2.out.rn O.out.rn (by omega)).mono ?_
        rintro e w5 ⟨rfl, b5⟩
        have HF := Lib.hid (bup3 B.out b5)
        clear b5
        go_wp2_with fail
        refine (alive_any _).mono ?_
        rintro e w' ⟨rfl, rfl⟩
        go_wp2_with fail
        all_goals (go_ret; exact ⟨rfl, HF.out⟩)
      · rw [he] at O2
        obtain ⟨a6, cap6, b6, off6, rfl, -⟩ := O2.out.rn.open
        clear he
        simp only [List.length_nil] at *
        go_wp2_with fail
        refine (sameNames_len _ _ [] xs _ _ _ _ _ O2.out.rn O.out.rn (by simp; omega)).mono ?_
        rintro e w5 ⟨rfl, b5⟩
        have HF := Lib.hid (bup3 B.out b5)
        clear b5
        go_wp2_with fail
        refine (alive_any _).mono ?_
        rintro e w' ⟨rfl, rfl⟩
        go_wp2_with fail
        all_goals (go_ret; exact ⟨rfl, HF.out⟩)
    · obtain ⟨k1, k2, k3⟩ := nmPut_yes HOK.out.symm
      simp only at k2 k3
      generalize (nmPut xs (s, f)).1 = ys at O2 k1 k2 k3 hle
      have c1 := fun wx v lo hi h => implNmv_any v ys lo hi wx h
      rw [k1] at c1
      have C1 := Lib.hid c1
      have c2 := fun wx v lo hi h => implFind_any v ys s lo hi wx h
      rw [k2] at c2
      have C2 := Lib.hid c2
      have c3 := fun wx v lo hi h => implDrop_any v ys s lo hi wx h (by omega)
      unfold DropPost at c3
      rw [k3] at c3
      have C3 := Lib.hid c3
      clear c1 c2 c3 k1 k2 k3
      obtain ⟨hb0, hb1⟩ := box_at X.out
      go_wp2_with fail
      refine (C3.out _ _ _ _ O2.out.rn).mono ?_
      rintro e w5 ⟨v5, rfl, o5, c⟩
      replace O := Lib.hid (O.out.below (bup3 c (Below.refl _ _).drew))
      replace O2 := Lib.hid (O2.out.below (bup3 c (Below.refl _ _).drew))
      have O5 := Lib.hid (o5.below (Below.refl _ _).drew)
      replace B := Lib.hid (bup3 B.out (bup3 c (Below.refl _ _).drew))
      replace X := Lib.hid (box2_keep X.out c)
      clear hb0 hb1 c o5
      obtain ⟨hb0, hb1⟩ := box_at X.out
      go_wp2_with fail
      go_region_held3 (fun w' => w'.cell? ⟨w1.heap.size, 0, none⟩ = some (.string s) ∧ w'.cell? ⟨w1.heap.size, 1, none⟩ = some (.int .i64 f))
        (first | exact ⟨hb0, hb1⟩ | exact ⟨cell_later (w := w5.drew) (by assumption) hb0, cell_later (w := w5.drew) (by assumption) hb1⟩ | exact ⟨cell_later (w := w5.drew) (bup3 (b := wa) (by assumption) (by assumption)) hb0, cell_later (w := w5.drew) (bup3 (b := wa) (by assumption) (by assumption)) hb1⟩ | exact ⟨cell_later (w := w5.drew) (bup3 (b := wb) (bup3 (b := wa) (by assumption) (by assumption)) (by assumption)) hb0, cell_later (w := w5.drew) (bup3 (b := wb) (bup3 (b := wa) (by assumption) (by assumption)) (by assumption)) hb1⟩)
        (first | (go_at_call 14; refine (C1.out _ _ _ _ O2.out.rn).mono ?_; rintro e wa ⟨rfl, ca⟩)
               | (go_at_call 19; refine (C2.out _ _ _ _ (O2.out.below (by assumption)).rn).mono ?_; rintro e wb ⟨rfl, cb⟩)
               | (go_at_call 26; refine (sameNames_any _ _ xs _ _ _ _ _ (O5.out.below (bup3 (b := wa) (by assumption) (by assumption))).rn (O.out.below (bup3 (b := wa) (by assumption) (by assumption))).rn (by omega)).mono ?_; rintro e wc ⟨rfl, cc⟩))
      have ca' : Below w5.drew.heap.size w5.drew wa := by assumption
      have cb' : Below wa.heap.size wa wb := by assumption
      have cc' : Below wb.heap.size wb wc := by assumption
      have HF := Lib.hid (bup3 B.out (bup3 (bup3 ca' cb') cc'))
      clear ca' cb' cc'
      go_wp2_with fail
      all_goals (go_ret; exact ⟨rfl, HF.out⟩)
  · go_enter Try.func10, Try.ntmps10
    go_wp2_with fail
    all_goals (go_ret; exact ⟨rfl, Below.refl _ _⟩)

end Go.Proofs.Ythhganlnljoinaa
