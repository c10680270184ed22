/-
  TableGet and FileSize, of the program and of the reference.
-/
import Derived.Test.YtgmkkajdmbmliaaTbv
namespace Go.Proofs.Ytgmkkajdmbmliaa
open Go.RowKit

theorem tget_in {t : List (List Int)} {f p : Nat} (hv : tabVal t = true) (hf : f < t.length) (hp : p < t[f].length) : tget t f p = t[f][p] := by
  have h8 := tab_len hv
  have h6 := tab_row hv hf
  rw [tget, if_pos ⟨hv, by simp only [inFP, Bool.and_eq_true, inB_iff]; omega⟩, Int.toNat_natCast, Int.toNat_natCast, tat_eq hf hp]
theorem tget_bad {t : List (List Int)} {f p : Int} (hv : tabVal t = false) : tget t f p = -1 := by rw [tget, if_neg (by rw [hv]; simp)]
theorem tget_out {t : List (List Int)} {f p : Int} (h : ¬ (0 ≤ f ∧ f ≤ 7 ∧ 0 ≤ p ∧ p ≤ 5)) : tget t f p = -1 := by
  rw [tget, if_neg (by simp only [inFP, Bool.and_eq_true, inB_iff]; omega)]
theorem fsz_in {t : List (List Int)} {f : Nat} (hv : tabVal t = true) (hf : f < t.length) : fsz t f = rsz t[f] := by
  have h8 := tab_len hv
  rw [fsz, if_pos ⟨hv, inB_yes (by omega) (by omega)⟩, Int.toNat_natCast, getD_at hf]
theorem fsz_bad {t : List (List Int)} {f : Int} (hv : tabVal t = false) : fsz t f = -1 := by rw [fsz, if_neg (by rw [hv]; simp)]
theorem fsz_out {t : List (List Int)} {f : Int} (h : ¬ (0 ≤ f ∧ f ≤ 7)) : fsz t f = -1 := by
  rw [fsz, if_neg (by rw [inB_iff]; omega)]






end Go.Proofs.Ytgmkkajdmbmliaa
