/-
  The plain law of the victims; no program in sight.
-/
import Derived.Test.YtgmkkajdmbmliaaBcp
import Derived.Test.YtgmkkajdmbmliaaHdw
namespace Go.Proofs.Ytgmkkajdmbmliaa
open Go.RowKit

/-- The block n may be cleaned; cs: the counts. -/
def may (d : List Bk) (cs : List Int) (h : Hd) (n : Nat) : Bool := decide (nfull (d.getD n bk0).pages = 4) && decide (cs.getD n 0 < 4) && !isHd h n
def gvN (d : List Bk) (cs : List Int) (h : Hd) : Nat → Int
  | 0 => -1
  | n + 1 => if may d cs h n = true ∧ (gvN d cs h n < 0 ∨ cs.getD n 0 < cs.getD (gvN d cs h n).toNat 0) then n else gvN d cs h n
theorem gvN_le (d : List Bk) (cs : List Int) (h : Hd) : ∀ n : Nat, -1 ≤ gvN d cs h n ∧ gvN d cs h n < (n : Int)
  | 0 => by unfold gvN; omega
  | n + 1 => by
    have := gvN_le d cs h n
    unfold gvN
    split <;> omega
theorem gvN_no {d : List Bk} {cs : List Int} {h : Hd} {n : Nat} (hm : may d cs h n = false) : gvN d cs h (n + 1) = gvN d cs h n := by
  rw [gvN, if_neg (by rw [hm]; simp)]
theorem gvN_step {d : List Bk} {cs : List Int} {h : Hd} {n : Nat} (hm : may d cs h n = true) : gvN d cs h (n + 1) = if gvN d cs h n < 0 ∨ cs.getD n 0 < cs.getD (gvN d cs h n).toNat 0 then (n : Int) else gvN d cs h n := by
  rw [gvN]
  simp only [hm, true_and]
def gv (d : List Bk) (t : List (List Int)) (h : Hd) : Int := if hdOk d h = true ∧ tabVal t = true then gvN d (bcs d t) h d.length else -1
theorem gv_no1 {d : List Bk} {t : List (List Int)} {h : Hd} (hk : hdOk d h = false) : gv d t h = -1 := by unfold gv; rw [if_neg (by rw [hk]; simp)]
theorem gv_no2 {d : List Bk} {t : List (List Int)} {h : Hd} (hk : tabVal t = false) : gv d t h = -1 := by unfold gv; rw [if_neg (by rw [hk]; simp)]
theorem gv_yes {d : List Bk} {t : List (List Int)} {h : Hd} (h1 : hdOk d h = true) (h2 : tabVal t = true) : gv d t h = gvN d (bcs d t) h d.length := by unfold gv; rw [if_pos ⟨h1, h2⟩]
theorem bcs_len_yes {d : List Bk} {t : List (List Int)} (h1 : dvOk d = true) (h2 : tabVal t = true) : (bcs d t).length = d.length := by rw [bcs_yes h1 h2, cntN_len]
theorem getD_in {l : List Int} {k : Nat} (hk : k < l.length) : l.getD k 0 = l[k] := by simp [hk]
theorem getDb_in {d : List Bk} {k : Nat} (hk : k < d.length) : d.getD k bk0 = d[k] := by simp [hk]

end Go.Proofs.Ytgmkkajdmbmliaa
