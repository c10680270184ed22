/-
  The walks of FreePages, both ways.
-/
import Derived.Test.YtncdhaligibhiaaBcp
import Derived.Test.YtncdhaligibhiaaDvr
import Derived.Test.YtncdhaligibhiaaDvh
namespace Go.Proofs.Ytncdhaligibhiaa
open Go.RowKit

theorem nfull_step {l : List Pg} {k : Nat} (hk : k < l.length) : nfull (l.take (k + 1)) = nfull (l.take k) + if l[k].full = true then 1 else 0 := by
  rw [nfull_take hk]
  cases l[k].full <;> simp
theorem nfull_take_le (l : List Pg) (k : Nat) : nfull (l.take k) ≤ k := by
  have := nfull_le (l.take k)
  rw [List.length_take] at this
  omega

theorem RB1.keep {w w' : World} {lo hi : Nat} {v : Value} {b : Bk} (h : RB1 w lo hi v b) (hk : Below w.heap.size w w') : RB1 w' lo hi v b := by
  obtain ⟨s, rfl, h1, h2⟩ := h
  exact ⟨s, rfl, h1, h2.below hk⟩




end Go.Proofs.Ytncdhaligibhiaa
