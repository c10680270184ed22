/-
  TableChanges, of the program and of the reference.
-/
import Derived.Test.YtpfekeflkmafcaaTbv
namespace Go.Proofs.Ytpfekeflkmafcaa
open Go.RowKit

theorem pre_len {t : List (List Int)} (hv : tabVal t = true) {f p : Nat} (hf : f < t.length) (hp : p ≤ 6) : (pre t f p).length = f * 6 + p := by
  have h6 := (tabVal_iff.1 hv).2.1
  unfold pre
  rw [List.length_append, flat_len (fun l hl => h6 l (List.mem_of_mem_take hl)), getD_at hf, List.length_take, List.length_take, tab_row hv hf]
  omega
theorem tdif_le (a b : List Int) : tdif a b ≤ a.length := by
  unfold tdif
  have h1 := List.countP_le_length (p := fun q : Int × Int => !(q.1 == q.2)) (l := a.zip b)
  have h2 : (a.zip b).length ≤ a.length := by rw [List.length_zip]; omega
  omega
theorem tdif_pre {a b : List (List Int)} (ha : tabVal a = true) (hb : tabVal b = true) {f p : Nat} (hfa : f < a.length) (hfb : f < b.length) (hpa : p < a[f].length) (hpb : p < b[f].length) :
    tdif (pre a f (p + 1)) (pre b f (p + 1)) = tdif (pre a f p) (pre b f p) + if a[f][p] = b[f][p] then 0 else 1 := by
  have h6 := tab_row ha hfa
  rw [pre_succ hfa hpa, pre_succ hfb hpb, tdif_snoc]
  rw [pre_len ha hfa (by omega), pre_len hb hfb (by omega)]
theorem tdif_bd {a b : List (List Int)} (ha : tabVal a = true) {f p : Nat} (hfa : f < a.length) (hp : p ≤ 6) : tdif (pre a f p) (pre b f p) ≤ 48 := by
  have h1 := tdif_le (pre a f p) (pre b f p)
  rw [pre_len ha hfa hp] at h1
  have := tab_len ha
  omega
theorem tchg_yes {a b : List (List Int)} (ha : tabVal a = true) (hb : tabVal b = true) : tchg a b = tdif ((a.take 8).flatten) ((b.take 8).flatten) := by
  rw [tchg, if_pos ⟨ha, hb⟩, List.take_of_length_le (by rw [tab_len ha]; omega), List.take_of_length_le (by rw [tab_len hb]; omega)]
theorem tchg_no {a b : List (List Int)} (h : tabVal a = false ∨ tabVal b = false) : tchg a b = -1 := by
  rw [tchg, if_neg]
  rintro ⟨h1, h2⟩
  rcases h with h | h
  · rw [h1] at h; cases h
  · rw [h2] at h; cases h
theorem two_new {w w2 : World} (o1 o2 : Obj) (h : Below ((w.alloc o1).alloc o2).heap.size ((w.alloc o1).alloc o2) w2) :
    w2.heap[w.heap.size]? = some o1 ∧ w2.heap[w.heap.size + 1]? = some o2 := by
  have e1 : ((w.alloc o1).alloc o2).heap[w.heap.size]? = some o1 := by
    rw [Below.heap_alloc _ _ _ (by simp)]; exact heap_alloc_new w o1
  have e2 : ((w.alloc o1).alloc o2).heap[w.heap.size + 1]? = some o2 := by
    have := heap_alloc_new (w.alloc o1) o2
    simpa using this
  exact ⟨(h.block _ (by simp; omega)).trans e1, (h.block _ (by simp)).trans e2⟩
theorem two_below (w : World) (o1 o2 : Obj) : Below w.heap.size w ((w.alloc o1).alloc o2) := (balloc w o1).trans ((balloc (w.alloc o1) o2).mono (by simp))



end Go.Proofs.Ytpfekeflkmafcaa
