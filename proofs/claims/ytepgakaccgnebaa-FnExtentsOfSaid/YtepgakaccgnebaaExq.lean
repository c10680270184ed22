/-
  ExtentsOf of the reference.
-/
import Derived.Test.YtepgakaccgnebaaExo
namespace Go.Proofs.Ytepgakaccgnebaa
open Go.RowKit

/-- The state of the reference's loop. -/
def OfInS (w : World) (xs : List Int) (R : List (Int × Int) × Bool) (v i : Value) (wr : World) : Prop :=
  ∃ (k : Nat) (acc : List (Int × Int)), k ≤ xs.length ∧ i = .int .i64 k ∧ (OX wr w.heap.size v acc ∧ v ≠ .slice none 0 0) ∧ Below w.heap.size w wr ∧ OfSt acc k ∧ fin (sGo acc (xs.drop k)) = R
/-- As OfPost, and the slice is not nil. -/
def OfPostN (xs : List Int) (w : World) (e : Ending) (w' : World) : Prop := ∃ v, e = .returned (.tuple #[v, .bool (exOf xs).2]) ∧ (OX w' w.heap.size v (exOf xs).1 ∧ v ≠ .slice none 0 0) ∧ Below w.heap.size w w'
theorem sGo_cons (acc : List (Int × Int)) (x : Int) (xs : List Int) : sGo acc (x :: xs) = sGo (sStep acc x) xs := rfl

set_option maxHeartbeats 4000000 in
theorem specOfN_any (v : Value) (xs : List Int) (lo hi : Nat) (w : World) (h : RI w lo hi v xs) (hx : xs.length ≤ 1048576) :
    Calls Try.prog 31 #[v] w (OfPostN xs w) := by
  obtain ⟨a, cap, b, off, rfl, q1, q2, q3, q4⟩ := h.open
  have Q4 := Lib.hid q4
  have HW := Lib.hid h.2
  clear h q4
  unfold OfPostN
  generalize hR : exOf xs = R
  have HR : Hid (fin (sGo [] (xs.drop 0)) = R) := Lib.hid hR
  clear hR
  go_enter Try.func31, Try.ntmps31
  go_wp2_with fail
  go_loopw [4, 5, 6] (fun v i _ wr => OfInS w xs R v i wr) (fun _ i _ _ => xs.length - (intOf i).toNat)
  case atStart => exact ⟨0, [], Nat.zero_le _, rfl, ⟨⟨World.ownsRow_lit w #[] 0 (Nat.le_refl _) (by decide) rfl, fun _ h => by simp at h⟩, by simp⟩, (Below.refl _ _).alloc (Nat.le_refl _) _, ⟨Nat.le_refl _, fun h => by omega⟩, HR.out⟩
  case round =>
    obtain ⟨wo, rfl⟩ : ∃ wo : World, wo = wr := ⟨_, rfl⟩
    obtain ⟨k, acc, hk, rfl, ⟨o0, hnn⟩, b0, st, H0⟩ := hrel
    have HNN := Lib.hid hnn
    clear hnn
    clear HR
    have hz := b0.size
    have O0 := Lib.hid (And.intro o0 (And.intro b0 st))
    have HF := Lib.hid H0
    clear o0 b0 st H0
    by_cases hlt : k < xs.length
    · obtain rfl := q3 (by omega)
      have c1 := cell_later O0.out.2.1 (Q4.out k hlt)
      have H1 := HF.out
      rw [drop_cons xs k hlt, sGo_cons] at H1
      have hxk : I64 xs[k] := HW.out _ (List.getElem_mem hlt)
      clear q3 HF
      obtain ⟨x, hxx⟩ : ∃ x, x = xs[k] := ⟨_, rfl⟩
      rw [← hxx] at c1 H1 hxk
      have hacck := O0.out.2.2.1
      clear hxx
      by_cases hk0 : k = 0
      · have hnil : acc = [] := by cases acc with | nil => rfl | cons _ _ => simp [hk0] at hacck
        subst hnil
        have HF := Lib.hid (show fin (sGo [(x, 1)] (xs.drop (k + 1))) = R from H1)
        have HK0 := Lib.hid hk0
        clear H1 hk0
        obtain ⟨a4, cap4, b4, off4, he4, g2, g3, -, -⟩ := O0.out.1.rx.open
        subst he4
        simp only [List.length_nil] at *
        go_wp2_with fail
        go_quiet ((go_at_call 35; exact Calls.quiet_of_same (l1In_q _ _ _ _)))
        have O1 := Lib.hid (And.intro (O0.out.1.below (bdN wo nq)) (And.intro (O0.out.2.1.drewN nq) O0.out.2.2))
        have c2 := cell_later (bdN wo nq) c1
        go_wp2_with (at_builtin; refine ap1_ext rfl _ _ rfl w.heap.size (.slice a4 0 cap4) [] (x, 1) rfl O1.out.1 rfl (by simp) hz ⟨hxk, by unfold I64; omega⟩ ?_; intro v' w2 o2 d2)
        have HG : Hid (OfInS w xs R v' (.int .i64 ((k : Int) + 1)) w2) := ⟨k + 1, [(x, 1)], by omega, by go_num, o2, below_own O1.out.2.1 hz d2, O0.out.2.2.snoc x, HF.out⟩
        clear o2 d2
        go_roundw
        case rel => exact HG.out
        case measure => simp [intOf]; omega
      · obtain ⟨l, f, m, rfl, hm0, hm1⟩ := O0.out.2.2.2 (by omega)
        have hkL : k ≤ 1048576 := by omega
        have hlen : (l ++ [(f, m)]).length = l.length + 1 := by simp
        obtain ⟨g, cap4, he4, g1, g2, g3⟩ := own_shape1 O0.out.1.1 (by omega)
        rw [hlen] at he4
        subst he4
        have hk9 := O0.out.2.2.1
        rw [hlen] at hk9
        have cc := xc_at (l ++ [(f, m)]) l.length (by simp)
        have ho := O0.out.1.1
        rw [hlen] at ho
        rw [← ho.cellAt (l.length * 2) (by omega), ← ho.cellAt (l.length * 2 + 1) (by omega)] at cc
        simp only [List.getElem_concat_length] at cc
        obtain ⟨cf, cm⟩ := cc
        have hmI : I64 (m + 1) := by unfold I64; omega
        have hlast : lastE (l ++ [(f, m)]) = (f, m) := by simp [lastE]
        have hsx : sExt (l ++ [(f, m)]) x = ((x == w64 (f + m)) && inB x 0 1000040)  := by
          have hne : (l ++ [(f, m)]).isEmpty = false := by cases l <;> rfl
          rw [sExt, hlast, hne]; rfl
        obtain ⟨y, hy⟩ : ∃ y, IntKind.i64.wrap (f + m) = y := ⟨_, rfl⟩
        have hsx2 : sExt (l ++ [(f, m)]) x = ((x == y) && inB x 0 1000040) := by rw [hsx, ← hy]; rfl
        have hkp : 0 < k := by omega
        have HO := Lib.hid ho
        obtain ⟨hx0, hx1⟩ := hxk
        clear hk0 hlast hsx ho hacck
        by_cases hb : ((x == y) && inB x 0 1000040) = true
        · have HF := Lib.hid (show fin (sGo (l ++ [(f, m + 1)]) (xs.drop (k + 1))) = R by rw [← H1, sStep, if_pos (by rw [hsx2, hb]), bump_snoc])
          obtain ⟨hq, hi⟩ := Bool.and_eq_true_iff.1 hb
          have hq' : (x == y) = true := hq
          clear H1 hsx2 hb hq
          have HI := Lib.hid hi
          clear hi
          generalize hin : inB x 0 1000040 = bi at HI
          obtain rfl := HI.out
          have c4 := fun wx => l1In_q x 0 1000040 wx
          rw [hin] at c4
          have C4 := Lib.hid c4
          clear c4 hin
          go_wp2_with fail
          go_quiet ((go_at_call 35; exact Calls.quiet_of_same (C4.out _)))
          have HO1 := Lib.hid (own_chg HO.out (below_chg (bdN wo nq) fun _ => False) (fun _ _ _ h => h))
          have hfr := HO1.out.frozenAt (l.length * 2 + 1)
          have c5 : (wo.drewN nq).cell? ⟨g, l.length * 2 + 1, none⟩ = some (.int .i64 m) := cell_later (bdN wo nq) cm
          have hw1 : IntKind.i64.wrap (m + 1) = m + 1 := IntWalk.i64_in _ hmI
          have HG : Hid (OfInS w xs R (.slice (some ⟨g, 0, none⟩) (l.length + 1) cap4) (.int .i64 ((k : Int) + 1)) ((wo.drewN nq).setCell ⟨g, l.length * 2 + 1, none⟩ (.int .i64 (m + 1)))) :=
            ⟨k + 1, l ++ [(f, m + 1)], by omega, by go_num, ⟨ox_bump (O0.out.1.below (bdN wo nq)) hmI, by simp⟩, (O0.out.2.1.drewN nq).setCell (p := ⟨g, l.length * 2 + 1, none⟩) g1 (.int .i64 (m + 1)), O0.out.2.2.bump hm0 hm1, HF.out⟩
          clear hm0
          go_wp2_with fail
          go_roundw
          case rel => exact HG.out
          case measure => simp [intOf]; omega
        · have HF := Lib.hid (show fin (sGo (l ++ [(f, m)] ++ [(x, 1)]) (xs.drop (k + 1))) = R by rw [← H1, sStep, if_neg (by rw [hsx2]; exact hb)])
          clear H1 hsx2
          by_cases hq : x = y
          · have hq' : (x == y) = true := by simp [hq]
            have hi : inB x 0 1000040 = false := by simpa [hq'] using hb
            have c4 := fun wx => l1In_q x 0 1000040 wx
            rw [hi] at c4
            have C4 := Lib.hid c4
            clear c4 hi hq hb
            go_wp2_with fail
            go_quiet ((go_at_call 35; exact Calls.quiet_of_same (C4.out _)))
            have O1 := Lib.hid (And.intro (O0.out.1.below (bdN wo nq)) (O0.out.2.1.drewN nq))
            have c2 := cell_later (bdN wo nq) c1
            go_wp2_with (at_builtin; refine ap1_ext rfl _ _ rfl w.heap.size (.slice (some ⟨g, 0, none⟩) (l.length + 1) cap4) (l ++ [(f, m)]) (x, 1) rfl O1.out.1 rfl (by omega) hz ⟨⟨hx0, hx1⟩, by unfold I64; omega⟩ ?_; intro v' w2 o2 d2)
            have HG : Hid (OfInS w xs R v' (.int .i64 ((k : Int) + 1)) w2) := ⟨k + 1, l ++ [(f, m)] ++ [(x, 1)], by omega, by go_num, o2, below_own O1.out.2 hz d2, O0.out.2.2.snoc x, HF.out⟩
            clear o2 d2
            go_roundw
            case rel => exact HG.out
            case measure => simp [intOf]; omega
          · have hq' : (x == y) = false := by simp [hq]
            clear hq hb
            go_wp2_with fail
            go_quiet ((go_at_call 35; exact Calls.quiet_of_same (l1In_q _ _ _ _)))
            have O1 := Lib.hid (And.intro (O0.out.1.below (bdN wo nq)) (O0.out.2.1.drewN nq))
            have c2 := cell_later (bdN wo nq) c1
            go_wp2_with (at_builtin; refine ap1_ext rfl _ _ rfl w.heap.size (.slice (some ⟨g, 0, none⟩) (l.length + 1) cap4) (l ++ [(f, m)]) (x, 1) rfl O1.out.1 rfl (by omega) hz ⟨⟨hx0, hx1⟩, by unfold I64; omega⟩ ?_; intro v' w2 o2 d2)
            have HG : Hid (OfInS w xs R v' (.int .i64 ((k : Int) + 1)) w2) := ⟨k + 1, l ++ [(f, m)] ++ [(x, 1)], by omega, by go_num, o2, below_own O1.out.2 hz d2, O0.out.2.2.snoc x, HF.out⟩
            clear o2 d2
            go_roundw
            case rel => exact HG.out
            case measure => simp [intOf]; omega
    · have hkn : k = xs.length := by omega
      subst hkn
      have H1 := HF.out
      rw [List.drop_length] at H1
      have H2 := Lib.hid (show fin acc = R from H1)
      clear H1 HF
      have hokv : exVal acc = R.2 := by rw [← H2.out, fin]; split <;> simp_all
      by_cases hv : exVal acc = true
      · have hR1 := Lib.hid (show R = (acc, true) by rw [← H2.out, fin, if_pos hv])
        clear H2 hokv
        go_wp2_with fail
        refine (specExv_any _ acc _ _ _ O0.out.1.rx).mono ?_
        rintro e w1 ⟨rfl, b1⟩
        have HF := Lib.hid (And.intro (O0.out.1.below b1) (bup O0.out.2.1 (Nat.le_refl _) b1))
        clear b1
        go_wp2_with fail
        go_ret2
        exact ⟨_, by rw [hR1.out]; rfl, ⟨by rw [hR1.out]; exact HF.out.1, HNN.out⟩, HF.out.2⟩
      · have hv' : exVal acc = false := by simpa using hv
        have hR1 := Lib.hid (show R = ([], false) by rw [← H2.out, fin, if_neg hv])
        clear H2 hokv hv
        go_wp2_with fail
        refine (specExv_any _ acc _ _ _ O0.out.1.rx).mono ?_
        rintro e w1 ⟨rfl, b1⟩
        have HF := Lib.hid (bup O0.out.2.1 (Nat.le_refl _) b1)
        have hz1 := HF.out.size
        clear b1
        go_wp2_with fail
        go_ret2
        exact ⟨_, by rw [hR1.out]; rfl, ⟨by rw [hR1.out]; exact ⟨World.ownsRow_lit w1 #[] 0 hz1 (by decide) rfl, fun _ h => by simp at h⟩, by simp⟩, HF.out.alloc hz1 _⟩

theorem specOf_any (v : Value) (xs : List Int) (lo hi : Nat) (w : World) (h : RI w lo hi v xs) (hx : xs.length ≤ 1048576) :
    Calls Try.prog 31 #[v] w (OfPost xs w) :=
  (specOfN_any v xs lo hi w h hx).mono fun _ _ ⟨v', h1, h2, h3⟩ => ⟨v', h1, h2.1, h3⟩

end Go.Proofs.Ytepgakaccgnebaa
