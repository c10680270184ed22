/-
  The walk of laws.sameTable.
-/
import Derived.Test.YthpcgdkhipcieaaTbh
import Derived.Test.YthpcgdkhipcieaaTbc
namespace Go.Proofs.Ythpcgdkhipcieaa
open Go.RowKit

def sameLL (xs ys : List (List Int)) : Bool := decide (xs = ys)
theorem drop_split (xs ys : List (List Int)) (k : Nat) (h1 : k < xs.length) (h2 : k < ys.length) : sameLL (xs.drop k) (ys.drop k) = (sameL xs[k] ys[k] && sameLL (xs.drop (k + 1)) (ys.drop (k + 1))) := by
  unfold sameLL sameL
  rw [Bool.eq_iff_iff, decide_eq_true_eq, Bool.and_eq_true, decide_eq_true_eq, decide_eq_true_eq]
  rw [drop_cons xs k h1, drop_cons ys k h2, List.cons.injEq]

set_option maxHeartbeats 2000000 in
theorem sameTable_any (v v2 : Value) (xs ys : List (List Int)) (lo hi lo2 hi2 : Nat) (w : World) (h : RT w lo hi v xs) (h2 : RT w lo2 hi2 v2 ys) (hx : tsz xs ≤ 1048576) (hy : tsz ys ≤ 1048576) :
    Calls Try.prog 26 #[.agg #[v], .agg #[v2]] w fun e w' => e = .returned (.bool (sameLL xs ys)) ∧ Below w.heap.size w w' := by
  obtain ⟨a, cap, b, off, rfl, q1, q2, q3, q4⟩ := h.open
  obtain ⟨a', cap', b', off', rfl, r1, r2, r3, r4⟩ := h2.open
  have Q4 := Lib.hid q4
  have R4 := Lib.hid r4
  obtain ⟨hx1, hx2⟩ := tsz_row hx
  obtain ⟨hy1, hy2⟩ := tsz_row hy
  have HX := Lib.hid (And.intro hx2 hy2)
  obtain ⟨x0, x1⟩ := two_new (w := w) (.cells #[.slice a xs.length cap] 27) (.cells #[.slice a' ys.length cap'] 27) (Below.refl _ _)
  have HB0 := two_below w (.cells #[.slice a xs.length cap] 27) (.cells #[.slice a' ys.length cap'] 27)
  have HS : Hid (Below w.heap.size w ((w.alloc (.cells #[.slice a xs.length cap] 27)).alloc (.cells #[.slice a' ys.length cap'] 27)) ∧ _ ∧ _) := Lib.hid ⟨HB0, x0, x1⟩
  clear h h2 q4 r4 hx hy hx2 hy2 x0 x1 HB0
  by_cases hl : xs.length = ys.length
  · have hle : ((xs.length : Int) != (ys.length : Int)) = false := by simp [hl]
    generalize hR : sameLL xs ys = R
    have H0 : Hid (sameLL (xs.drop 0) (ys.drop 0) = R) := hR
    have HL := Lib.hid hl
    clear hR hl
    go_enter Try.func26, Try.ntmps26
    go_wp2_with fail
    go_loopw [5] (fun i wr => ∃ k : Nat, k ≤ xs.length ∧ i = .int .i64 k ∧ Hid (sameLL (xs.drop k) (ys.drop k) = R) ∧ Hid (Below w.heap.size w wr ∧ wr.heap[w.heap.size]? = some (.cells #[.slice a xs.length cap] 27) ∧ wr.heap[w.heap.size + 1]? = some (.cells #[.slice a' ys.length cap'] 27))) (fun i _ => xs.length - (intOf i).toNat)
    case atStart => exact ⟨0, Nat.zero_le _, rfl, H0, HS⟩
    case round =>
      obtain ⟨k, hk, rfl, HK, HR⟩ := hrel
      obtain ⟨wo, rfl⟩ : ∃ wo : World, wo = wr := ⟨_, rfl⟩
      clear HS H0
      obtain ⟨hb0, -⟩ := one_at HR.out.2.1
      obtain ⟨hb1, -⟩ := one_at HR.out.2.2
      by_cases hlt : k < xs.length
      · have hlt2 : k < ys.length := by have := HL.out; omega
        obtain ⟨u, hcu, hu⟩ := Q4.out k hlt
        obtain ⟨u', hcu', hu'⟩ := R4.out k hlt2
        obtain rfl := q3 (by omega)
        obtain rfl := r3 (by omega)
        have d1 := cell_later HR.out.1 hcu
        have d2 := cell_later HR.out.1 hcu'
        have HU := Lib.hid (And.intro (hu.below (bup2 HR.out.1 (bdrew wo))) (hu'.below (bup2 HR.out.1 (bdrew wo))))
        have e1 := HX.out.1 k hlt
        have e2 := HX.out.2 k hlt2
        clear hcu hcu' hu hu'
        have HS := Lib.hid (drop_split xs ys k hlt hlt2)
        go_wp2_with fail
        go_region_held3 (fun w' => w'.cell? ⟨w.heap.size, 0, none⟩ = some (.slice (some ⟨b, off, none⟩) xs.length cap) ∧ w'.cell? ⟨w.heap.size + 1, 0, none⟩ = some (.slice (some ⟨b', off', none⟩) ys.length cap') ∧ w'.cell? ⟨b, off + k, none⟩ = some u ∧ w'.cell? ⟨b', off' + k, none⟩ = some u')
          (first | exact ⟨hb0, hb1, d1, d2⟩ | exact ⟨cell_later (w := wo.drew) (by assumption) hb0, cell_later (w := wo.drew) (by assumption) hb1, cell_later (w := wo.drew) (by assumption) d1, cell_later (w := wo.drew) (by assumption) d2⟩)
          (first | (go_at_call 40; refine (sameInts_any u u' xs[k] ys[k] _ _ _ _ _ HU.out.1 HU.out.2 e1 e2).mono ?_; rintro e wa ⟨rfl, ca⟩))
        have ca' : Below wo.drew.heap.size wo.drew wa := by assumption
        have c := bup2 (bdrew wo) ca'
        have HR2 := Lib.hid (And.intro (bup2 HR.out.1 c) (And.intro (box_keep HR.out.2.1 c) (box_keep HR.out.2.2 c)))
        clear ca' c
        cases hqc : sameL xs[k] ys[k]
        · have HF := Lib.hid (show R = false by rw [← HK.out, HS.out, hqc]; rfl)
          go_wp2_with fail
          all_goals (go_ret; exact ⟨ret_bool HF.out.symm, HR2.out.1⟩)
        · have HF := Lib.hid (show sameLL (xs.drop (k + 1)) (ys.drop (k + 1)) = R by rw [← HK.out, HS.out, hqc, Bool.true_and])
          go_wp2_with fail
          go_roundw
          case rel => exact ⟨k + 1, by omega, by go_num, HF, HR2⟩
          case measure => simp [intOf]; omega
      · have HF := Lib.hid (show sameLL (xs.drop k) (ys.drop k) = true by rw [List.drop_of_length_le (by omega), List.drop_of_length_le (by have := HL.out; omega)]; rfl)
        go_wp2_with fail
        all_goals (go_ret; exact ⟨ret_bool (HF.out.symm.trans HK.out), HR.out.1⟩)
  · have hle : ((xs.length : Int) != (ys.length : Int)) = true := by rw [bne_iff_ne]; omega
    have hs : sameLL xs ys = false := by
      unfold sameLL
      simp only [decide_eq_false_iff_not]
      intro h; rw [h] at hl; exact hl rfl
    rw [hs]
    clear hl hs
    go_enter Try.func26, Try.ntmps26
    go_wp2_with fail
    all_goals (go_ret; exact ⟨rfl, HS.out.1⟩)

end Go.Proofs.Ythpcgdkhipcieaa
