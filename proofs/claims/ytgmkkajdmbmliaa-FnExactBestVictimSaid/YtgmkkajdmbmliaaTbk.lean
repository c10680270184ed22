/-
  The walks of CutFile.
-/
import Derived.Test.YtgmkkajdmbmliaaTbx
namespace Go.Proofs.Ytgmkkajdmbmliaa
open Go.RowKit

/-- A row cut from p on, as far as j. -/
def rcn (l : List Int) (p j : Nat) : List Int := l.mapIdx fun i x => if p ≤ i ∧ i < j then -1 else x
theorem rcn_len (l : List Int) (p j : Nat) : (rcn l p j).length = l.length := by simp [rcn]
theorem rcn_start (l : List Int) (p : Nat) : rcn l p p = l := by
  refine List.ext_getElem (by simp [rcn]) fun i h1 h2 => ?_
  simp only [rcn, List.getElem_mapIdx]
  rw [if_neg (by omega)]
theorem rcn_step (l : List Int) (p j : Nat) (hp : p ≤ j) : (rcn l p j).set j (-1) = rcn l p (j + 1) := by
  refine List.ext_getElem (by simp [rcn]) fun i h1 h2 => ?_
  rw [List.getElem_set]
  simp only [rcn, List.getElem_mapIdx]
  by_cases e : j = i
  · subst e; rw [if_pos rfl, if_pos (by omega)]
  · rw [if_neg e]
    by_cases h : p ≤ i ∧ i < j
    · rw [if_pos h, if_pos (by omega)]
    · rw [if_neg h, if_neg (by omega)]
theorem rcn_end (l : List Int) (p j : Nat) (hp : p ≤ l.length) (hj : l.length ≤ j) : rcn l p j = rcut l p := by
  refine List.ext_getElem (by simp [rcn, rcut]; omega) fun i h1 h2 => ?_
  have hi : i < l.length := by rw [rcn_len] at h1; exact h1
  simp only [rcn, List.getElem_mapIdx, rcut]
  by_cases h : p ≤ i
  · rw [if_pos ⟨h, by omega⟩, List.getElem_append_right (by simp; omega)]
    simp
  · rw [if_neg (by omega), List.getElem_append_left (by simp; omega)]
    simp
theorem tcut_in {t : List (List Int)} {f p : Nat} (hv : tabVal t = true) (hf : f < t.length) (hp : p ≤ 6) : tcut t f p = t.set f (rcut t[f] p) := by
  have h8 := tab_len hv
  have e1 : (f : Int).toNat = f := by omega
  have e2 : (p : Int).toNat = p := by omega
  rw [tcut, if_pos ⟨hv, inB_yes (by omega) (by omega), inB_yes (by omega) (by omega)⟩, e1, e2, getD_at hf]
theorem tcut_out {t : List (List Int)} {f p : Int} (h : ¬ (tabVal t = true ∧ (0 ≤ f ∧ f ≤ 7) ∧ (0 ≤ p ∧ p ≤ 6))) : tcut t f p = [] := by
  rw [tcut, if_neg]
  rintro ⟨h1, h2, h3⟩
  refine h ⟨h1, ?_, ?_⟩
  · refine Classical.byContradiction fun hh => ?_
    rw [inB_no (by omega)] at h2
    cases h2
  · refine Classical.byContradiction fun hh => ?_
    rw [inB_no (by omega)] at h3
    cases h3
def CtR (w : World) (C lo hi A n : Nat) (cap : Nat) (xss : List (List Int)) (wr : World) : Prop :=
  OT wr lo hi (.slice (some ⟨A, 0, none⟩) n cap) xss ∧ Below w.heap.size w wr ∧
    wr.heap[C]? = some (.cells #[.slice (some ⟨A, 0, none⟩) n cap] 33) ∧ wr.heap[w.heap.size + 1]? = some (.cells #[.slice none 0 0] 33)





end Go.Proofs.Ytgmkkajdmbmliaa
