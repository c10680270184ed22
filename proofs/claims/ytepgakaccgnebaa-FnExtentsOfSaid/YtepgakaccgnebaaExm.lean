/-
  ExtentsList of the reference.
-/
import Derived.Test.YtepgakaccgnebaaExl
namespace Go.Proofs.Ytepgakaccgnebaa
open Go.RowKit

/-- The state of the reference's inner loop. -/
def ExInS (w : World) (R : List Int) (x : Int) (m : Nat) (rest : List Int) (v i : Value) (wr : World) : Prop :=
  ∃ (j : Nat) (acc : List Int), j ≤ m ∧ i = .int .i64 j ∧ OI wr w.heap.size v acc ∧ Below w.heap.size w wr ∧ R = acc ++ (seg x m j ++ rest)

set_option maxHeartbeats 4000000 in
theorem specExl_good (v : Value) (xs : List (Int × Int)) (lo hi : Nat) (w : World) (h : RX w lo hi v xs) (hv : exVal xs = true) :
    Calls Try.prog 22 #[v] w (NewI (exList xs) w) := by
  obtain ⟨a, cap, b, off, rfl, q1, q2, q3, q4⟩ := h.open
  have H := Lib.hid h
  have Q4 := Lib.hid q4
  clear h q4
  have HLEN := Lib.hid (exList_len xs)
  generalize hR : exList xs = R at HLEN ⊢
  have HR : Hid (R = exNums (xs.drop 0)) := Lib.hid (by rw [← hR, exList, if_pos hv]; rfl)
  have HOK := Lib.hid (exVal_ok hv)
  clear hR
  go_enter Try.func22, Try.ntmps22
  go_wp2_with fail
  go_loopw [3, 4, 5] (fun v i _ wr => ∃ (k : Nat) (acc : List Int), k ≤ xs.length ∧ i = .int .i64 k ∧ OI wr w.heap.size v acc ∧ Below w.heap.size w wr ∧ Hid (R = acc ++ exNums (xs.drop k))) (fun _ i _ _ => xs.length - (intOf i).toNat)
  case atStart => exact ⟨0, [], Nat.zero_le _, rfl, ⟨World.ownsRow_lit w #[] 0 (Nat.le_refl _) (by decide) rfl, fun _ h => by simp at h⟩, (Below.refl _ _).alloc (Nat.le_refl _) _, HR⟩
  case round =>
    obtain ⟨wo, rfl⟩ : ∃ wo : World, wo = wr := ⟨_, rfl⟩
    obtain ⟨k, acc, hk, rfl, o0, b0, H0⟩ := hrel
    have O0 := Lib.hid (And.intro o0 b0)
    have hz := b0.size
    clear HR o0 b0
    by_cases hlt : k < xs.length
    · obtain rfl := q3 (by omega)
      have hok := exOk_iff.1 (HOK.out.2 k hlt)
      have H1 : Hid (R = acc ++ (seg xs[k].1 xs[k].2.toNat 0 ++ exNums (xs.drop (k + 1)))) := Lib.hid (by rw [H0.out, exNums_drop xs k hlt])
      have C1 := Lib.hid (Q4.out k hlt)
      clear q3 H0
      obtain ⟨⟨x, y⟩, hxy⟩ : ∃ e, e = xs[k] := ⟨_, rfl⟩
      rw [← hxy] at C1 hok H1
      clear hxy
      simp only at C1 hok H1
      obtain ⟨⟨hx0, hx1⟩, hy0, hy1⟩ := hok
      obtain ⟨m, rfl⟩ := Int.eq_ofNat_of_zero_le (show 0 ≤ y by omega)
      rw [Int.toNat_natCast] at H1
      go_wp2_with fail
      refine (specExv_any _ xs _ _ _ (H.out.below O0.out.2)).mono ?_
      rintro e w1 ⟨rfl, b1⟩
      have O1 := Lib.hid (And.intro (O0.out.1.below b1) (bup O0.out.2 (Nat.le_refl _) b1))
      clear b1
      go_wp2_with fail
      go_loopw [3, 5] (fun v i wr => ExInS w R x m (exNums (xs.drop (k + 1))) v i wr) (fun _ i _ => m - (intOf i).toNat)
      case atStart => exact ⟨0, acc, Nat.zero_le _, rfl, O1.out.1, O1.out.2, H1.out⟩
      case round =>
        obtain ⟨j, acc', hj, rfl, o1, b1, hR1⟩ := hrel
        have hz1 := b1.size
        have hlenR : acc'.length ≤ R.length := by rw [hR1]; simp
        have hl320 := HLEN.out
        have c1 := cell_later b1 C1.out.1
        have c2 := cell_later b1 C1.out.2
        have O2 := Lib.hid (And.intro o1 (And.intro b1 hR1))
        clear o1 b1 hR1
        by_cases hjm : j < m
        · go_wp2_with (at_builtin; refine ap1_int rfl _ _ rfl w.heap.size u3 acc' (x + (j : Int)) rfl O2.out.1 rfl (by omega) hz1 (by unfold I64; omega) ?_; intro v' w2 o2 d2)
          have HF : Hid (ExInS w R x m (exNums (xs.drop (k + 1))) v' (.int .i64 ((j : Int) + 1)) w2) := by
            refine ⟨j + 1, acc' ++ [x + (j : Int)], by omega, by go_num, o2.1, below_own O2.out.2.1 hz1 d2, ?_⟩
            rw [O2.out.2.2, seg_cons x m j hjm]; simp
          clear o2 d2
          go_roundw
          case rel => first | exact HF.out | exact ⟨_, _, HF.out, rfl, rfl⟩
          case measure => simp [intOf]; omega
        · have HF : Hid (R = acc' ++ exNums (xs.drop (k + 1))) := Lib.hid (by rw [O2.out.2.2, seg_end x m j hjm]; simp)
          go_wp2_with fail
          go_roundw
          case rel => exact ⟨k + 1, acc', by omega, by go_num, O2.out.1, O2.out.2.1, HF⟩
          case measure => simp [intOf]; omega
    · have H1 : Hid (R = acc) := Lib.hid (by rw [H0.out, exNums_end _ _ hlt]; simp)
      have hlt' : decide (k < xs.length) = false := by simp; omega
      go_wp2_with fail
      go_ret
      exact ⟨_, rfl, by rw [H1.out]; exact O0.out.1, O0.out.2⟩

set_option maxHeartbeats 1000000 in
theorem specExl_bad (v : Value) (xs : List (Int × Int)) (lo hi : Nat) (w : World) (h : RX w lo hi v xs) (hv : exVal xs = false) :
    Calls Try.prog 22 #[v] w (NewI [] w) := by
  obtain ⟨a, cap, b, off, rfl, q1, q2, q3, q4⟩ := h.open
  have H := Lib.hid h
  clear h q4
  have hpos : 0 < xs.length := by
    rcases xs with _ | ⟨e, r⟩
    · exact absurd hv (by decide)
    · simp
  obtain rfl := q3 hpos
  clear q3
  have HV := Lib.hid hv
  clear hv
  go_enter Try.func22, Try.ntmps22
  go_wp2_with fail
  go_loopw [3, 4] (fun v i wr => i = .int .i64 0 ∧ OI wr w.heap.size v [] ∧ Below w.heap.size w wr) (fun _ i _ => 1 - (intOf i).toNat)
  case atStart => exact ⟨rfl, ⟨World.ownsRow_lit w #[] 0 (Nat.le_refl _) (by decide) rfl, fun _ h => by simp at h⟩, (Below.refl _ _).alloc (Nat.le_refl _) _⟩
  case round =>
    obtain ⟨wo, rfl⟩ : ∃ wo : World, wo = wr := ⟨_, rfl⟩
    obtain ⟨rfl, o0, b0⟩ := hrel
    have O0 := Lib.hid (And.intro o0 b0)
    clear o0 b0
    go_wp2_with fail
    refine (specExv_any _ xs _ _ _ (H.out.below O0.out.2)).mono ?_
    rintro e w1 ⟨rfl, b1⟩
    have O1 := Lib.hid (And.intro (O0.out.1.below b1) (bup O0.out.2 (Nat.le_refl _) b1))
    have hv' : exVal xs = false := HV.out
    clear b1
    go_wp2_with fail
    go_ret
    exact ⟨_, rfl, O1.out⟩

theorem specExl_any (v : Value) (xs : List (Int × Int)) (lo hi : Nat) (w : World) (h : RX w lo hi v xs) :
    Calls Try.prog 22 #[v] w (NewI (exList xs) w) := by
  by_cases hv : exVal xs = true
  · exact specExl_good v xs lo hi w h hv
  · rw [exList, if_neg hv]
    exact specExl_bad v xs lo hi w h (by simpa using hv)

end Go.Proofs.Ytepgakaccgnebaa
