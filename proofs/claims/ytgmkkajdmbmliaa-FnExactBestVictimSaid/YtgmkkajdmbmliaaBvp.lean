/-
  The plain law of the best victim; no program in sight.
-/
import Derived.Test.YtgmkkajdmbmliaaGvp
namespace Go.Proofs.Ytgmkkajdmbmliaa
open Go.RowKit

/-- The greatest stamp of the first k pages. -/
def lastN (ps : List Pg) : Nat → Int
  | 0 => 0
  | k + 1 => max (lastN ps k) (ps.getD k pg0).stamp
theorem lastN_step {ps : List Pg} {k : Nat} (hk : k < ps.length) : lastN ps (k + 1) = max (lastN ps k) ps[k].stamp := by
  have e : ps.getD k pg0 = ps[k] := by simp [hk]
  rw [lastN, e]
theorem lastN_bd {b : Bk} (hb : bkOk b = true) : ∀ k : Nat, 0 ≤ lastN b.pages k ∧ lastN b.pages k ≤ 1000000
  | 0 => by unfold lastN; omega
  | k + 1 => by
    have ih := lastN_bd hb k
    have h2 : 0 ≤ (b.pages.getD k pg0).stamp ∧ (b.pages.getD k pg0).stamp ≤ 1000000 := by
      by_cases hk : k < b.pages.length
      · have e : b.pages.getD k pg0 = b.pages[k] := by simp [hk]
        rw [e]
        exact pgOk_stamp (bk_page hb hk)
      · have e : b.pages.getD k pg0 = pg0 := by rw [List.getD_eq_getElem?_getD, List.getElem?_eq_none (by omega)]; rfl
        rw [e]
        decide
    rw [lastN, Int.max_def]
    split <;> omega
def ageOf (b : Bk) (now : Int) : Int := max 0 (now - lastN b.pages b.pages.length)
theorem ageOf_bd {b : Bk} (hb : bkOk b = true) {now : Int} (h0 : 0 ≤ now) (h1 : now ≤ 1000000) : 0 ≤ ageOf b now ∧ ageOf b now ≤ 1000000 := by
  have := lastN_bd hb b.pages.length
  unfold ageOf
  rw [Int.max_def]
  split <;> omega
/-- The best block of the first n, and its score. -/
def bvN (d : List Bk) (cs : List Int) (h : Hd) (now : Int) : Nat → Int × Int
  | 0 => (-1, -1)
  | n + 1 => if may d cs h n = true ∧ (bvN d cs h now n).2 < vscore (cs.getD n 0) (ageOf (d.getD n bk0) now) then ((n : Int), vscore (cs.getD n 0) (ageOf (d.getD n bk0) now)) else bvN d cs h now n
theorem bvN_no {d : List Bk} {cs : List Int} {h : Hd} {now : Int} {n : Nat} (hm : may d cs h n = false) : bvN d cs h now (n + 1) = bvN d cs h now n := by
  rw [bvN, if_neg (by rw [hm]; simp)]
theorem bvN_up {d : List Bk} {cs : List Int} {h : Hd} {now : Int} {n : Nat} (hn : n < d.length) (hc : n < cs.length) (hm : may d cs h n = true) (hs : (bvN d cs h now n).2 < vscore cs[n] (ageOf d[n] now)) :
    bvN d cs h now (n + 1) = ((n : Int), vscore cs[n] (ageOf d[n] now)) := by
  rw [bvN, getD_in hc, getDb_in hn, if_pos ⟨hm, hs⟩]
theorem bvN_keep {d : List Bk} {cs : List Int} {h : Hd} {now : Int} {n : Nat} (hn : n < d.length) (hc : n < cs.length) (hs : ¬ (bvN d cs h now n).2 < vscore cs[n] (ageOf d[n] now)) :
    bvN d cs h now (n + 1) = bvN d cs h now n := by
  rw [bvN, getD_in hc, getDb_in hn, if_neg (fun h => hs h.2)]
theorem bvN_le (d : List Bk) (cs : List Int) (h : Hd) (now : Int) : ∀ n : Nat, -1 ≤ (bvN d cs h now n).1 ∧ (bvN d cs h now n).1 < (n : Int)
  | 0 => by unfold bvN; simp
  | n + 1 => by
    have := bvN_le d cs h now n
    unfold bvN
    split
    · simp
      omega
    · omega
def bv (d : List Bk) (t : List (List Int)) (h : Hd) (now : Int) : Int := if hdOk d h = true ∧ tabVal t = true ∧ 0 ≤ now ∧ now ≤ 1000000 then (bvN d (bcs d t) h now d.length).1 else -1
theorem bv_yes {d : List Bk} {t : List (List Int)} {h : Hd} {now : Int} (h1 : hdOk d h = true) (h2 : tabVal t = true) (h3 : 0 ≤ now ∧ now ≤ 1000000) : bv d t h now = (bvN d (bcs d t) h now d.length).1 := by unfold bv; rw [if_pos ⟨h1, h2, h3⟩]
theorem bv_no {d : List Bk} {t : List (List Int)} {h : Hd} {now : Int} (hn : hdOk d h = false ∨ tabVal t = false ∨ now < 0 ∨ 1000000 < now) : bv d t h now = -1 := by
  unfold bv
  rw [if_neg]
  rintro ⟨h1, h2, h3, h4⟩
  rcases hn with hn | hn | hn | hn
  · rw [h1] at hn; cases hn
  · rw [h2] at hn; cases hn
  · omega
  · omega

end Go.Proofs.Ytgmkkajdmbmliaa
