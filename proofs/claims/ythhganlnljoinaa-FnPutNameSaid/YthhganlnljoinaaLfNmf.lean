/-
  The walks of the laws FnFindName, FnDropName.
-/
import Derived.Test.YthhganlnljoinaaDrn
import Derived.Test.YthhganlnljoinaaNmm
namespace Go.Proofs.Ythhganlnljoinaa
open Go.RowKit

set_option maxHeartbeats 1000000 in
theorem FnFindName_walk (w : World) (v : Value) (bs : List Int) (h : RB w 0 w.heap.size v bs) :
    Calls Try.prog 6 #[v] w fun e w' => e = .returned (.bool true) ∧ Below w.heap.size w w' := by
  have H := Lib.hid h
  obtain ⟨a, cap, b, off, rfl, -⟩ := h.open
  clear h
  by_cases hl : bs.length ≤ 1048576
  · go_enter Try.func6, Try.ntmps6
    go_wp2_with fail
    refine (drawFindName _ _ bs H.out).mono ?_
    rintro e w1 ⟨v, xs, s, rfl, hx, hs, ⟨o1, hnn⟩, b1⟩
    obtain ⟨g, cap1, rfl, g1, g2, g3⟩ := own_shape o1.1 hnn
    have O1 := Lib.hid (And.intro o1 b1)
    clear o1 b1 hnn
    obtain ⟨ok, hok⟩ : ∃ ok, ok = nmVal xs := ⟨_, rfl⟩
    have hn0 : nmFind xs s = if ok = true then nmFd (xs.drop 0) s else -1 := by rw [nmFind, hok]; rfl
    have HOK := Lib.hid hok
    have HN := Lib.hid hn0
    clear hok hn0
    go_wp2_with fail
    refine (implFind_any _ xs s _ _ _ O1.out.1.rn).mono ?_
    rintro e w2 ⟨rfl, b2⟩
    have O2 := Lib.hid (And.intro (O1.out.1.below b2) (bup O1.out.2 (Nat.le_refl _) b2))
    clear b2
    go_wp2_with fail
    refine (specFind_any _ xs s _ _ _ O2.out.1.rn).mono ?_
    rintro e w3 ⟨rfl, b3⟩
    have O3 := Lib.hid (And.intro (O2.out.1.below b3) (bup O2.out.2 (Nat.le_refl _) b3))
    clear b3
    generalize nmFind xs s = n at HN ⊢
    have hbb : (n != n) = false := by simp
    go_wp2_with fail
    go_loopw [6] (fun i wr => ∃ k : Nat, k ≤ xs.length ∧ i = .int .i64 k ∧ Hid (ON wr w.heap.size (.slice (some ⟨g, 0, none⟩) xs.length cap1) xs ∧ Below w.heap.size w wr) ∧ Hid (n = if ok = true then nmFd (xs.drop k) s else -1)) (fun i _ => xs.length - (intOf i).toNat)
    case atStart => exact ⟨0, Nat.zero_le _, rfl, O3, HN⟩
    case round =>
      obtain ⟨wo, rfl⟩ : ∃ wo : World, wo = wr := ⟨_, rfl⟩
      obtain ⟨k, hk, rfl, HO, H0⟩ := hrel
      clear HN
      by_cases hlt : k < xs.length
      · have HY := Lib.hid (nmFd_yes xs s k hlt)
        have HNo := Lib.hid (nmFd_no xs s k hlt)
        have HQ := Lib.hid (nc_at xs k hlt)
        obtain ⟨⟨x, y⟩, hxy⟩ : ∃ e, e = xs[k] := ⟨_, rfl⟩
        rw [← hxy] at HY HNo HQ
        clear hxy
        simp only at HY HNo HQ
        go_wp2_with fail
        refine (implNmv_any _ xs _ _ _ HO.out.1.rn).mono ?_
        rintro e w4 ⟨rfl, b4⟩
        have O4 := Lib.hid (And.intro (HO.out.1.below b4) (bup HO.out.2 (Nat.le_refl _) b4))
        have c1 := (O4.out.1.1.cellAt (k * 2) (by omega)).trans HQ.out.1
        have c2 := (O4.out.1.1.cellAt (k * 2 + 1) (by omega)).trans HQ.out.2
        clear b4
        rw [← HOK.out]
        cases ok
        · have hn1 : n = -1 := by rw [H0.out]; rfl
          subst hn1
          go_wp2_with fail
          refine (alive_any _).mono ?_
          rintro e w' ⟨rfl, rfl⟩
          go_wp2_with fail
          all_goals (go_ret; exact ⟨rfl, O4.out.2⟩)
        · cases hq : (x.toList == s.toList)
          · have H1 : Hid (n = if true = true then nmFd (xs.drop (k + 1)) s else -1) := Lib.hid (by rw [H0.out, if_pos rfl, HNo.out hq]; rfl)
            go_wp2_with fail
            go_roundw
            case rel => exact ⟨k + 1, by omega, by go_num, O4, H1⟩
            case measure => simp [intOf]; omega
          · have hn1 : n = y := by rw [H0.out, if_pos rfl, HY.out hq]
            subst hn1
            go_wp2_with fail
            all_goals (go_ret; exact ⟨ret_bool (by simp), O4.out.2⟩)
      · have hn1 : n = -1 := by rw [H0.out, nmFd_end _ _ _ hlt]; simp
        have hlt' : decide (k < xs.length) = false := by simp; omega
        subst hn1
        go_wp2_with fail
        refine (alive_any _).mono ?_
        rintro e w' ⟨rfl, rfl⟩
        go_wp2_with fail
        all_goals (go_ret; exact ⟨rfl, HO.out.2⟩)
  · go_enter Try.func6, Try.ntmps6
    go_wp2_with fail
    all_goals (go_ret; exact ⟨rfl, Below.refl _ _⟩)

theorem nmWo_all {xs : List (ByteArray × Int)} {t : ByteArray} (h : ¬ (nmWo xs t).length < xs.length) : nmWo xs t = xs := by
  have h1 := nmWo_le xs t
  have h2 : (nmWo xs t).length = xs.length := by omega
  exact List.filter_eq_self.2 (List.length_filter_eq_length_iff.1 h2)
theorem nmDrop_no {xs : List (ByteArray × Int)} {t : ByteArray} (h : (nmDrop xs t).2 = false) : (nmDrop xs t).1 = xs ∨ ((nmDrop xs t).1 = [] ∧ 0 < xs.length) := by
  unfold nmDrop at h ⊢
  by_cases hv : nmVal xs = true
  · rw [if_pos hv] at h ⊢
    exact .inl (nmWo_all (by simpa using h))
  · rw [if_neg hv]
    refine .inr ⟨rfl, ?_⟩
    rcases xs with _ | ⟨e, r⟩
    · exact absurd nmVal_nil hv
    · simp
theorem nmDrop_yes {xs : List (ByteArray × Int)} {t : ByteArray} (h : (nmDrop xs t).2 = true) : nmVal (nmDrop xs t).1 = true ∧ nmFind (nmDrop xs t).1 t = -1 ∧ (nmDrop xs t).1.length + 1 = xs.length := by
  unfold nmDrop at h ⊢
  by_cases hv : nmVal xs = true
  · rw [if_pos hv] at h ⊢
    exact ⟨nmWo_val hv t, nmWo_find xs t, nmWo_len hv t (by simpa using h)⟩
  · rw [if_neg hv] at h; cases h
theorem nmDrop_le (xs : List (ByteArray × Int)) (t : ByteArray) : (nmDrop xs t).1.length ≤ xs.length := by
  unfold nmDrop
  split
  · exact nmWo_le xs t
  · simp

set_option maxHeartbeats 1000000 in
theorem FnDropName_walk (w : World) (v : Value) (bs : List Int) (h : RB w 0 w.heap.size v bs) :
    Calls Try.prog 8 #[v] w fun e w' => e = .returned (.bool true) ∧ Below w.heap.size w w' := by
  have H := Lib.hid h
  obtain ⟨a, cap, b, off, rfl, -⟩ := h.open
  clear h
  by_cases hl : bs.length ≤ 1048576
  · go_enter Try.func8, Try.ntmps8
    go_wp2_with fail
    refine (drawDropName _ _ bs H.out).mono ?_
    rintro e w1 ⟨v, xs, s, rfl, hx, hs, ⟨o1, hnn⟩, b1⟩
    obtain ⟨g, cap1, rfl, g1, g2, g3⟩ := own_shape o1.1 hnn
    have O1 := Lib.hid (And.intro o1 b1)
    have hle := nmDrop_le xs s
    clear o1 b1 hnn
    go_wp2_with fail
    refine (implDrop_any _ xs s _ _ _ O1.out.1.rn (by omega)).mono ?_
    rintro e w2 ⟨v2, rfl, o2, b2⟩
    have O2 := Lib.hid (And.intro (O1.out.1.below b2) (And.intro o2 (bup O1.out.2 (Nat.le_refl _) b2)))
    clear o2 b2
    go_wp2_with fail
    refine (specDrop_any _ xs s _ _ _ O2.out.1.rn (by omega)).mono ?_
    rintro e w3 ⟨v3, rfl, o3, b3⟩
    have O3 := Lib.hid (And.intro (O2.out.1.below b3) (And.intro (O2.out.2.1.below b3) (And.intro o3 (bup O2.out.2.2 (Nat.le_refl _) b3))))
    clear o3 b3
    obtain ⟨ok, hok⟩ : ∃ ok, ok = (nmDrop xs s).2 := ⟨_, rfl⟩
    have HOK := Lib.hid hok
    clear hok
    rw [← HOK.out]
    have hbb : (ok != ok) = false := by simp
    go_wp2_with fail
    refine (sameNames_any _ _ (nmDrop xs s).1 _ _ _ _ _ O3.out.2.1.rn O3.out.2.2.1.rn (by omega)).mono ?_
    rintro e w4 ⟨rfl, b4⟩
    have O4 := Lib.hid (And.intro (O3.out.1.below b4) (And.intro (O3.out.2.1.below b4) (bup O3.out.2.2.2 (Nat.le_refl _) b4)))
    clear b4
    cases ok
    · rcases nmDrop_no HOK.out.symm with he | ⟨he, hpos⟩
      · have O5 := O4
        rw [he] at O5
        have HO5 := Lib.hid O5.out
        clear he O5
        go_wp2_with fail
        refine (sameNames_any _ _ xs _ _ _ _ _ HO5.out.2.1.rn HO5.out.1.rn (by omega)).mono ?_
        rintro e w5 ⟨rfl, b5⟩
        have HF := Lib.hid (bup HO5.out.2.2 (Nat.le_refl _) b5)
        clear b5
        go_wp2_with fail
        refine (alive_any _).mono ?_
        rintro e w' ⟨rfl, rfl⟩
        go_wp2_with fail
        all_goals (go_ret; exact ⟨rfl, HF.out⟩)
      · have O5 := O4
        rw [he] at O5
        obtain ⟨a6, cap6, b6, off6, rfl, -⟩ := O5.out.2.1.rn.open
        have HO5 := Lib.hid O5.out
        clear he O5
        simp only [List.length_nil] at *
        go_wp2_with fail
        refine (sameNames_len _ _ [] xs _ _ _ _ _ HO5.out.2.1.rn HO5.out.1.rn (by simp; omega)).mono ?_
        rintro e w5 ⟨rfl, b5⟩
        have HF := Lib.hid (bup HO5.out.2.2 (Nat.le_refl _) b5)
        clear b5
        go_wp2_with fail
        refine (alive_any _).mono ?_
        rintro e w' ⟨rfl, rfl⟩
        go_wp2_with fail
        all_goals (go_ret; exact ⟨rfl, HF.out⟩)
    · obtain ⟨k1, k2, k3⟩ := nmDrop_yes HOK.out.symm
      generalize (nmDrop xs s).1 = ys at O4 k1 k2 k3 hle
      have c1 := fun wx v lo hi h => implNmv_any v ys lo hi wx h
      rw [k1] at c1
      have C1 := Lib.hid c1
      have c2 := fun wx v lo hi h => implFind_any v ys s lo hi wx h
      rw [k2] at c2
      have C2 := Lib.hid c2
      have HL := Lib.hid k3
      clear c1 c2 k1 k2 k3
      go_wp2_with fail
      refine (C1.out _ _ _ _ O4.out.2.1.rn).mono ?_
      rintro e w5 ⟨rfl, b5⟩
      have O5 := Lib.hid (And.intro (O4.out.1.below b5) (And.intro (O4.out.2.1.below b5) (bup O4.out.2.2 (Nat.le_refl _) b5)))
      clear b5
      go_wp2_with fail
      refine (C2.out _ _ _ _ O5.out.2.1.rn).mono ?_
      rintro e w6 ⟨rfl, b6⟩
      have O6 := Lib.hid (And.intro (O5.out.2.1.below b6) (bup O5.out.2.2 (Nat.le_refl _) b6))
      clear b6
      obtain ⟨a6, cap6, b6, off6, rfl, -⟩ := O6.out.1.rn.open
      have hfin : (((ys.length : Nat) : Int) == ((xs.length : Nat) : Int) - 1) = true := by rw [beq_iff_eq]; have := HL.out; omega
      go_wp2_with fail
      all_goals (go_ret; exact ⟨rfl, O6.out.2⟩)
  · go_enter Try.func8, Try.ntmps8
    go_wp2_with fail
    all_goals (go_ret; exact ⟨rfl, Below.refl _ _⟩)

end Go.Proofs.Ythhganlnljoinaa
