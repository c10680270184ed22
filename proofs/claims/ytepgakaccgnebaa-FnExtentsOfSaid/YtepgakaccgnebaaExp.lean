/-
  The plain law of ExtentsOf: the program's way and the reference's end alike.
-/
import Derived.Test.YtepgakaccgnebaaExl
namespace Go.Proofs.Ytepgakaccgnebaa
open Go.RowKit

def w64 (x : Int) : Int := IntKind.i64.wrap x
def lastE (acc : List (Int × Int)) : Int × Int := acc.getLastD (0, 0)
def bump (acc : List (Int × Int)) : List (Int × Int) := acc.dropLast ++ [((lastE acc).1, (lastE acc).2 + 1)]
/-- The reference's step, and its run. -/
def sExt (acc : List (Int × Int)) (x : Int) : Bool := !acc.isEmpty && (x == w64 ((lastE acc).1 + (lastE acc).2)) && inB x 0 1000040
def sStep (acc : List (Int × Int)) (x : Int) : List (Int × Int) := if sExt acc x = true then bump acc else acc ++ [(x, 1)]
def sGo (acc : List (Int × Int)) (xs : List Int) : List (Int × Int) := xs.foldl sStep acc
/-- The program's run. -/
def iGo (acc : List (Int × Int)) (prev : Option Int) : List Int → Option (List (Int × Int))
  | [] => some acc
  | x :: xs => if (prev.any fun p => x == w64 (p + 1)) = true then iGo (bump acc) (some x) xs else if acc.length = 8 then none else iGo (acc ++ [(x, 1)]) (some x) xs
/-- What is answered. -/
def fin (acc : List (Int × Int)) : List (Int × Int) × Bool := if exVal acc = true then (acc, true) else ([], false)
def finO (o : Option (List (Int × Int))) : List (Int × Int) × Bool := match o with | none => ([], false) | some a => fin a
def exOf (xs : List Int) : List (Int × Int) × Bool := fin (sGo [] xs)

theorem w64_of {x : Int} (h0 : -9223372036854775808 ≤ x) (h1 : x ≤ 9223372036854775807) : w64 x = x := by
  exact IntWalk.i64_in _ ⟨h0, h1⟩
theorem w64_max : w64 9223372036854775808 = -9223372036854775808 := by decide

/-- Such runs never become valid. -/
def Bad (acc : List (Int × Int)) : Prop := 8 < acc.length ∨ ∃ e ∈ acc, ¬ (0 ≤ e.1 ∧ e.1 ≤ 1000000) ∨ 40 < e.2
theorem bad_fin {acc : List (Int × Int)} (h : Bad acc) : fin acc = ([], false) := by
  unfold fin
  rw [if_neg]
  intro hv
  have := exVal_ok hv
  rcases h with h | ⟨e, he, h⟩
  · omega
  · obtain ⟨k, hk, rfl⟩ := List.getElem_of_mem he
    have := exOk_iff.1 (this.2 k hk)
    omega
theorem dropLast_last {acc : List (Int × Int)} (h : acc ≠ []) : acc = acc.dropLast ++ [lastE acc] := by
  obtain ⟨l, e, rfl⟩ : ∃ l e, acc = l ++ [e] := ⟨_, _, (List.dropLast_concat_getLast h).symm⟩
  simp [lastE]
theorem bump_snoc (l : List (Int × Int)) (f m : Int) : bump (l ++ [(f, m)]) = l ++ [(f, m + 1)] := by simp [bump, lastE]
theorem bad_bump {acc : List (Int × Int)} (hn : acc ≠ []) (h : Bad acc) : Bad (bump acc) := by
  obtain ⟨l, ⟨f, m⟩, rfl⟩ : ∃ l e, acc = l ++ [e] := ⟨_, _, dropLast_last hn⟩
  rw [bump_snoc]
  rcases h with h | ⟨e, he, h⟩
  · left; simpa using h
  · right
    rcases List.mem_append.1 he with he | he
    · exact ⟨e, by simp [he], h⟩
    · simp at he; subst he
      exact ⟨(f, m + 1), by simp, by simp only at h ⊢; omega⟩
theorem bad_snoc {acc : List (Int × Int)} (h : Bad acc) (e : Int × Int) : Bad (acc ++ [e]) := by
  rcases h with h | ⟨e, he, h⟩
  · left; simp; omega
  · exact .inr ⟨e, by simp [he], h⟩
theorem bad_sStep {acc : List (Int × Int)} (h : Bad acc) (x : Int) : Bad (sStep acc x) := by
  unfold sStep
  split
  · rename_i he
    refine bad_bump ?_ h
    rintro rfl
    simp [sExt] at he
  · exact bad_snoc h _
theorem bad_sGo {acc : List (Int × Int)} (h : Bad acc) (xs : List Int) : fin (sGo acc xs) = ([], false) := by
  induction xs generalizing acc with
  | nil => exact bad_fin h
  | cons x xs ih => exact ih (bad_sStep h x)
theorem bad_iGo {acc : List (Int × Int)} (h : Bad acc) (hn : acc ≠ []) (p : Option Int) (xs : List Int) : finO (iGo acc p xs) = ([], false) := by
  induction xs generalizing acc p with
  | nil => exact bad_fin h
  | cons x xs ih =>
    unfold iGo
    split
    · exact ih (bad_bump hn h) (by simp [bump]) _
    · split
      · rfl
      · exact ih (bad_snoc h _) (by simp) _

/-- Both go alike. -/
theorem go_eq (l : List (Int × Int)) (f m : Int) (xs : List Int) (hf : I64 f) (hm : 1 ≤ m) (hp : f + m - 1 ≤ 9223372036854775807) (hx : I64s xs) :
    finO (iGo (l ++ [(f, m)]) (some (f + m - 1)) xs) = fin (sGo (l ++ [(f, m)]) xs) := by
  induction xs generalizing l f m with
  | nil => rfl
  | cons x xs ih =>
    have hx0 : I64 x := hx x (by simp)
    have hxs : I64s xs := fun y hy => hx y (by simp [hy])
    have hlast : lastE (l ++ [(f, m)]) = (f, m) := by simp [lastE]
    have hs : sGo (l ++ [(f, m)]) (x :: xs) = sGo (sStep (l ++ [(f, m)]) x) xs := rfl
    rw [hs]
    unfold iGo sStep
    simp only [Option.any_some, show f + m - 1 + 1 = f + m by omega, sExt, hlast, bump_snoc]
    by_cases he : x = w64 (f + m)
    · rw [if_pos (by simp [he])]
      by_cases hb : inB x 0 1000040 = true
      · rw [if_pos (by simp [← he, hb])]
        have hb' := inB_iff.1 hb
        have e1 : x = f + m := by
          by_cases h1 : f + m ≤ 9223372036854775807
          · rw [he, w64_of (by have := hf.1; omega) h1]
          · have : f + m = 9223372036854775808 := by omega
            rw [this, w64_max] at he
            omega
        have := ih l f (m + 1) hf (by omega) (by have := hx0.2; omega) hxs
        rw [show f + (m + 1) - 1 = x by omega] at this
        exact this
      · have hb' : ¬ (0 ≤ x ∧ x ≤ 1000040) := fun h => hb (inB_iff.2 h)
        rw [if_neg (by simp [hb])]
        have b1 : Bad (l ++ [(f, m)] ++ [(x, 1)]) := .inr ⟨(x, 1), by simp, .inl (by simp only; omega)⟩
        rw [bad_sGo b1]
        refine bad_iGo (.inr ⟨(f, m + 1), by simp, ?_⟩) (by simp) _ _
        simp only
        by_cases h1 : f + m ≤ 9223372036854775807
        · rw [w64_of (by have := hf.1; omega) h1] at he
          omega
        · omega
    · rw [if_neg (by simpa using he), if_neg (c := _ = true) (by simp [he])]
      split
      · rename_i h8
        symm
        exact bad_sGo (.inl (by simp at h8 ⊢; omega)) _
      · have := ih (l ++ [(f, m)]) x 1 hx0 (by omega) (by have := hx0.2; omega) hxs
        rw [show x + 1 - 1 = x by omega] at this
        exact this
theorem iGo_eq (xs : List Int) (hx : I64s xs) : finO (iGo [] none xs) = exOf xs := by
  cases xs with
  | nil => rfl
  | cons x xs =>
    have h := go_eq [] x 1 xs (hx x (by simp)) (by omega) (by have := (hx x (by simp)).2; omega) fun y hy => hx y (by simp [hy])
    rw [show x + 1 - 1 = x by omega] at h
    exact h

end Go.Proofs.Ytepgakaccgnebaa
