/-
  The walk of spec.l7Copy.
-/
import Derived.Test.YtpfekeflkmafcaaTbx
namespace Go.Proofs.Ytpfekeflkmafcaa
open Go.RowKit






theorem box_set {w : World} {B : Nat} {u : Value} {t : TypeId} (h : w.heap[B]? = some (.cells #[u] t (0, 0))) (v : Value) : (w.setCell ⟨B, 0, none⟩ v).heap[B]? = some (.cells #[v] t (0, 0)) := by
  rw [setCell_eq_setRow _ _ _ _ _ _ _ h, setRow_heap _ _ _ _ _ _ h]
  rfl


end Go.Proofs.Ytpfekeflkmafcaa
