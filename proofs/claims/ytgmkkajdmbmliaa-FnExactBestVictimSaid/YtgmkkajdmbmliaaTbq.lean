/-
  The walks of TablePut.
-/
import Derived.Test.YtgmkkajdmbmliaaTby
import Derived.Test.YtgmkkajdmbmliaaTbk
namespace Go.Proofs.Ytgmkkajdmbmliaa
open Go.RowKit

def PutT (t : List (List Int)) (f p x : Int) (w : World) (e : Ending) (w' : World) : Prop :=
  ∃ v, e = .returned (.tuple #[.agg #[v], .bool (tput t f p x).2]) ∧ OT w' w.heap.size w'.heap.size v (tput t f p x).1 ∧ Below w.heap.size w w'
theorem tput_in {t : List (List Int)} {f p : Nat} {x : Int} (hv : tabVal t = true) (hf : f < t.length) (hp : p ≤ 5) (hx0 : -1 ≤ x) (hx1 : x ≤ 47) :
    tput t f p x = if tabVal (t.set f (t[f].set p x)) = true then (t.set f (t[f].set p x), true) else (t, false) := by
  have h8 := tab_len hv
  have e1 : (f : Int).toNat = f := by omega
  have e2 : (p : Int).toNat = p := by omega
  rw [tput, if_pos ⟨hv, by rw [inFP, inB_yes (by omega) (by omega), inB_yes (by omega) (by omega)]; rfl, inB_yes hx0 hx1⟩, e1, e2, tset_eq hf]
theorem tput_out {t : List (List Int)} {f p x : Int} (h : ¬ (tabVal t = true ∧ (0 ≤ f ∧ f ≤ 7) ∧ (0 ≤ p ∧ p ≤ 5) ∧ (-1 ≤ x ∧ x ≤ 47))) : tput t f p x = ([], false) := by
  rw [tput, if_neg]
  rintro ⟨h1, h2, h3⟩
  rw [inFP, Bool.and_eq_true] at h2
  refine h ⟨h1, ?_, ?_, ?_⟩
  · refine Classical.byContradiction fun hh => ?_
    rw [inB_no (by omega)] at h2
    cases h2.1
  · refine Classical.byContradiction fun hh => ?_
    rw [inB_no (n := p) (by omega)] at h2
    cases h2.2
  · refine Classical.byContradiction fun hh => ?_
    rw [inB_no (by omega)] at h3
    cases h3

def NoH (t : List (List Int)) (f p : Nat) (x : Int) (r q : Nat) : Prop := ∀ i j (hi : i < t.length) (hj : j < t[i].length), (i < r ∨ (i = r ∧ j < q)) → ¬ (0 ≤ x ∧ t[i][j] = x ∧ (i ≠ f ∨ j ≠ p))
theorem NoH.step {t : List (List Int)} {f p : Nat} {x : Int} {r q : Nat} (h : NoH t f p x r q) (hr : r < t.length) (hq : q < t[r].length) (hn : ¬ (0 ≤ x ∧ t[r][q] = x ∧ (r ≠ f ∨ q ≠ p))) : NoH t f p x r (q + 1) := by
  intro i j hi hj h1
  by_cases e : i = r ∧ j = q
  · obtain ⟨rfl, rfl⟩ := e; exact hn
  · exact h i j hi hj (by omega)
theorem NoH.row {t : List (List Int)} {f p : Nat} {x : Int} {r q : Nat} (h : NoH t f p x r q) (hr : r < t.length) (hq : t[r].length ≤ q) : NoH t f p x (r + 1) 0 := by
  intro i j hi hj h1
  refine h i j hi hj ?_
  by_cases e : i = r
  · subst e; right; exact ⟨rfl, by omega⟩
  · left; omega
theorem put_hit {t : List (List Int)} (hv : tabVal t = true) {f p : Nat} (hf : f < t.length) (hp : p ≤ 5) {x : Int} (hx : -1 ≤ x ∧ x ≤ 47) {r q : Nat} (hr : r < t.length) (hq : q < t[r].length) (h0 : 0 ≤ x) (he : t[r][q] = x) (hn : r ≠ f ∨ q ≠ p) : tabVal (t.set f (t[f].set p x)) = false := by
  have h8 := tab_len hv
  have h6 := tab_row hv hr
  rw [← tset_eq hf, tput_val hv (by omega) (by omega) hx]
  have hg := flat_get (tabVal_iff.1 hv).2.1 hr hq
  have : elsewhere t f p x = true := by
    unfold elsewhere
    rw [Bool.and_eq_true, List.any_eq_true]
    refine ⟨by simpa using h0, r * 6 + q, by rw [List.mem_range]; omega, ?_⟩
    rw [List.getD_eq_getElem?_getD, hg, he]
    simp
    omega
  rw [this]; rfl
theorem put_no {t : List (List Int)} (hv : tabVal t = true) {f p : Nat} (hf : f < t.length) (hp : p ≤ 5) {x : Int} (hx : -1 ≤ x ∧ x ≤ 47) {r q : Nat} (h : NoH t f p x r q) (hr : t.length ≤ r) : tabVal (t.set f (t[f].set p x)) = true := by
  have h8 := tab_len hv
  rw [← tset_eq hf, tput_val hv (by omega) (by omega) hx]
  have : elsewhere t f p x = false := by
    cases he : elsewhere t f p x with
    | false => rfl
    | true =>
      exfalso
      unfold elsewhere at he
      rw [Bool.and_eq_true, List.any_eq_true] at he
      obtain ⟨h0, i, hi, hi2⟩ := he
      rw [List.mem_range] at hi
      have hi6 : i / 6 < t.length := by omega
      have h6 := tab_row hv hi6
      have hj6 : i % 6 < t[i / 6].length := by omega
      have hg := flat_get (tabVal_iff.1 hv).2.1 hi6 hj6
      rw [show i / 6 * 6 + i % 6 = i by omega] at hg
      rw [List.getD_eq_getElem?_getD, hg] at hi2
      simp at hi2 h0
      exact h (i / 6) (i % 6) hi6 hj6 (.inl (by omega)) ⟨h0, hi2.2, by omega⟩
  rw [this]; rfl





end Go.Proofs.Ytgmkkajdmbmliaa
