/-
  Cells laid one by one (for seats without slices of ints).
-/
import Derived.Test.YthhganlnljoinaaNum
import Derived.Deep.QuietTactic
import Derived.BigQuiet
namespace Go.Proofs.Ythhganlnljoinaa
open Go.RowKit

/-- The first k cells are those of cs'. -/
def Upto (k : Nat) (cs cs' : List Value) : Prop := ∀ i, i < k → cs[i]? = cs'[i]?
theorem Upto.zero (cs cs' : List Value) : Upto 0 cs cs' := fun _ h => absurd h (Nat.not_lt_zero _)
theorem Upto.set {k : Nat} {cs cs' : List Value} (h : Upto k cs cs') (hk : k < cs.length) (u : Value) (hu : cs'[k]? = some u) : Upto (k + 1) (cs.set k u) cs' := by
  intro i hi
  by_cases e : k = i
  · subst e; rw [List.getElem?_set_self hk, hu]
  · rw [List.getElem?_set_ne e]; exact h i (by omega)
theorem Upto.all {k : Nat} {cs cs' : List Value} (h : Upto k cs cs') (h1 : cs.length = k) (h2 : cs'.length = k) : cs = cs' := by
  apply List.ext_getElem?
  intro i
  by_cases hi : i < k
  · exact h i hi
  · rw [List.getElem?_eq_none (by omega), List.getElem?_eq_none (by omega)]

end Go.Proofs.Ythhganlnljoinaa
