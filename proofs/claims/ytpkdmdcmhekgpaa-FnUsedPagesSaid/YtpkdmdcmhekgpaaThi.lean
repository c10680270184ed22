/-
  The walk of laws.hasInt.
-/
import Derived.Test.YtpkdmdcmhekgpaaInts
namespace Go.Proofs.Ytpkdmdcmhekgpaa
open Go.RowKit

def hasI (xs : List Int) (y : Int) : Bool := decide (y ∈ xs)
theorem hasI_yes (xs : List Int) (y : Int) (k : Nat) (hk : k < xs.length) (h : xs[k] = y) : hasI (xs.drop k) y = true := by
  rw [hasI, drop_cons xs k hk, decide_eq_true_eq, h]; simp
theorem hasI_no (xs : List Int) (y : Int) (k : Nat) (hk : k < xs.length) (h : ¬ xs[k] = y) : hasI (xs.drop k) y = hasI (xs.drop (k + 1)) y := by
  rw [hasI, hasI, Bool.eq_iff_iff, decide_eq_true_eq, decide_eq_true_eq, drop_cons xs k hk, List.mem_cons]
  constructor
  · rintro (h1 | h1)
    · exact absurd h1.symm h
    · exact h1
  · exact .inr
theorem hasI_end (xs : List Int) (y : Int) (k : Nat) (hk : ¬ k < xs.length) : hasI (xs.drop k) y = false := by
  rw [List.drop_of_length_le (by omega)]; rfl

theorem hasInt_any (v : Value) (xs : List Int) (y : Int) (lo hi : Nat) (w : World) (h : RI w lo hi v xs) (hx : xs.length ≤ 1048576) :
    Calls Try.prog 17 #[v, .int .i64 y] w fun e w' => e = .returned (.bool (hasI xs y)) ∧ w = w' := by
  obtain ⟨a, cap, b, off, rfl, q1, q2, q3, q4⟩ := h.open
  generalize hR : hasI xs y = R
  have H0 : Hid (hasI (xs.drop 0) y = R) := hR
  have Q4 := Lib.hid q4
  clear hR q4 h
  go_enter Try.func17, Try.ntmps17
  go_wp2
  go_loop [5] (fun i => ∃ k : Nat, k ≤ xs.length ∧ i = .int .i64 k ∧ Hid (hasI (xs.drop k) y = R)) (fun i => xs.length - (intOf i).toNat)
  case atStart => exact ⟨0, Nat.zero_le _, rfl, H0⟩
  case round =>
    obtain ⟨k, hk, rfl, HK⟩ := hrel
    clear H0
    by_cases hlt : k < xs.length
    · obtain rfl := q3 (by omega)
      have hc := Q4.out k hlt
      by_cases he : xs[k] = y
      · have HF := Lib.hid (show R = true by rw [← HK.out, hasI_yes xs y k hlt he])
        have heb : (xs[k] == y) = true := by simp [he]
        clear he
        go_wp2
        all_goals (go_ret; exact ⟨ret_bool HF.out.symm, rfl⟩)
      · have HF := Lib.hid (show hasI (xs.drop (k + 1)) y = R by rw [← HK.out, hasI_no xs y k hlt he])
        have heb : (xs[k] == y) = false := by simp [he]
        clear he
        go_wp2
        go_round
        case rel => exact ⟨k + 1, by omega, by go_num, HF⟩
        case measure => simp [intOf]; omega
    · have HF := Lib.hid (show R = false by rw [← HK.out, hasI_end xs y k hlt])
      go_wp2
      all_goals (go_ret; exact ⟨ret_bool HF.out.symm, rfl⟩)

end Go.Proofs.Ytpkdmdcmhekgpaa
