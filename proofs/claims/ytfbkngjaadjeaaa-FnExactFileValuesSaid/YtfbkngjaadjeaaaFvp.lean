/-
  The plain law of a file's values; no program in sight.
-/
import Derived.Test.YtfbkngjaadjeaaaDvp
import Derived.Test.YtfbkngjaadjeaaaTbe
namespace Go.Proofs.Ytfbkngjaadjeaaa
open Go.RowKit

/-- The value at place k of file f; none if the table and the device are at odds there. -/
def fval (d : List Bk) (t : List (List Int)) (f k : Nat) : Option Int :=
  if tat t f k < 0 then some 0
  else if (rdp d (tat t f k)).2 = true ∧ (rdp d (tat t f k)).1.file = f ∧ (rdp d (tat t f k)).1.place = k then some (rdp d (tat t f k)).1.value else none
def fvN (d : List Bk) (t : List (List Int)) (f : Nat) : Nat → Option (List Int)
  | 0 => some []
  | n + 1 => match fvN d t f n with
    | none => none
    | some l => match fval d t f n with
      | none => none
      | some x => some (l ++ [x])
def fvs (d : List Bk) (t : List (List Int)) (f : Int) : List Int × Bool :=
  if dvOk d = true ∧ ¬ fsz t f < 0 then (match fvN d t f.toNat (fsz t f).toNat with | none => ([], false) | some l => (l, true)) else ([], false)
theorem fvN_yes {d : List Bk} {t : List (List Int)} {f n : Nat} {l : List Int} {x : Int} (h : fvN d t f n = some l) (hx : fval d t f n = some x) : fvN d t f (n + 1) = some (l ++ [x]) := by
  simp only [fvN, h, hx]
theorem fvN_no {d : List Bk} {t : List (List Int)} {f n : Nat} (hx : fval d t f n = none) : fvN d t f (n + 1) = none := by
  simp only [fvN, hx]
  cases fvN d t f n <;> rfl
theorem fvN_up {d : List Bk} {t : List (List Int)} {f n m : Nat} (h : fvN d t f n = none) (hm : n ≤ m) : fvN d t f m = none := by
  induction m with
  | zero => rw [show n = 0 by omega] at h; exact h
  | succ m ih =>
    by_cases e : n = m + 1
    · rw [← e]; exact h
    · have := ih (by omega)
      simp only [fvN, this]
theorem fvN_len {d : List Bk} {t : List (List Int)} {f : Nat} : ∀ {n : Nat} {l : List Int}, fvN d t f n = some l → l.length = n
  | 0, l, h => by simp only [fvN, Option.some.injEq] at h; rw [← h]; rfl
  | n + 1, l, h => by
    cases h1 : fvN d t f n with
    | none => simp only [fvN, h1] at h; cases h
    | some l1 =>
      cases h2 : fval d t f n with
      | none => simp only [fvN, h1, h2] at h; cases h
      | some x =>
        simp only [fvN, h1, h2, Option.some.injEq] at h
        rw [← h, List.length_append, fvN_len h1]
        rfl
theorem fvs_neg {d : List Bk} {t : List (List Int)} {f : Int} (h : fsz t f < 0) : fvs d t f = ([], false) := by unfold fvs; rw [if_neg (fun x => x.2 h)]
theorem fvs_dv {d : List Bk} {t : List (List Int)} {f : Int} (h : dvOk d = false) : fvs d t f = ([], false) := by unfold fvs; rw [if_neg (by rw [h]; simp)]
theorem fvs_yes {d : List Bk} {t : List (List Int)} {f n : Nat} {l : List Int} (h : dvOk d = true) (hn : fsz t f = n) (hl : fvN d t f n = some l) : fvs d t f = (l, true) := by
  unfold fvs
  rw [if_pos ⟨h, by omega⟩, hn]
  simp only [Int.toNat_natCast, hl]
theorem fvs_no {d : List Bk} {t : List (List Int)} {f n : Nat} (h : dvOk d = true) (hn : fsz t f = n) (hl : fvN d t f n = none) : fvs d t f = ([], false) := by
  unfold fvs
  rw [if_pos ⟨h, by omega⟩, hn]
  simp only [Int.toNat_natCast, hl]
theorem fvs_len (d : List Bk) (t : List (List Int)) (f : Int) : (fvs d t f).1.length ≤ 6 := by
  unfold fvs
  split
  · rename_i h
    obtain ⟨h1, h2, h3⟩ := fsz_ok h.2
    obtain ⟨f, rfl⟩ := Int.eq_ofNat_of_zero_le h2
    obtain ⟨n, hn, hn6, -⟩ := fsz_nat h1 (f := f) (by omega)
    rw [hn]
    simp only [Int.toNat_natCast]
    cases hl : fvN d t f n with
    | none => simp
    | some l => simp only; rw [fvN_len hl]; exact hn6
  · simp

end Go.Proofs.Ytfbkngjaadjeaaa
