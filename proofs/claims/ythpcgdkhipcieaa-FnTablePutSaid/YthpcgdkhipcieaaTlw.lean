/-
  Words for a law's body that holds tables in boxes.
-/
import Derived.Test.YthpcgdkhipcieaaDru
import Derived.Test.YthpcgdkhipcieaaTsm
import Derived.Test.YthpcgdkhipcieaaThi
namespace Go.Proofs.Ythpcgdkhipcieaa
open Go.RowKit

/-- Box B holds the table t, which reads in memory that is newer than w0. -/
structure TLw (w0 : World) (B : Nat) (sl : Value) (t : List (List Int)) (w : World) : Prop where
  rt : RT w w0.heap.size w.heap.size sl t
  box : w.heap[B]? = some (.cells #[sl] 27)
  bel : Below w0.heap.size w0 w
theorem TLw.below {w0 w w' : World} {B : Nat} {sl : Value} {t : List (List Int)} (h : TLw w0 B sl t w) (b : Below w.heap.size w w') : TLw w0 B sl t w' :=
  ⟨(h.rt.below b).wide (Nat.le_refl _) b.size, box_keep h.box b, bup2 h.bel b⟩
theorem tlw_new {w0 w1 : World} {sl : Value} {t : List (List Int)} (h : RT w1 w0.heap.size w1.heap.size sl t) (b : Below w0.heap.size w0 w1) : TLw w0 w1.heap.size sl t (w1.alloc (.cells #[sl] 27)) :=
  ⟨(h.below (balloc _ _)).wide (Nat.le_refl _) (balloc _ _).size, heap_alloc_new _ _, bup2 b (balloc _ _)⟩
theorem TLw.cell {w0 w : World} {B : Nat} {sl : Value} {t : List (List Int)} (h : TLw w0 B sl t w) : w.cell? ⟨B, 0, none⟩ = some sl := (one_at h.box).1

end Go.Proofs.Ythpcgdkhipcieaa
