/-
  What came in as an argument, opened for the walks: names.
-/
import Derived.Test.YthhganlnljoinaaOpen
import Derived.Test.YthhganlnljoinaaNam
import Derived.Deep.SlicePairs
import Derived.Lib.SmallJoins
namespace Go.Proofs.Ythhganlnljoinaa
open Go.ChangeShapes Go.WideShapes Go.ChangeAt Go.RowKit

/-- The text in a value. -/
def strOf (v : Value) : ByteArray := match v with | .string s => s | _ => ByteArray.empty
theorem nc_get (xs : List (ByteArray × Int)) (j : Nat) (hj : j < xs.length * 2) : (nc xs)[j]? = some (if j % 2 = 0 then .string (xs.getD (j / 2) (ByteArray.empty, 0)).1 else .int .i64 (xs.getD (j / 2) (ByteArray.empty, 0)).2) := by
  have hk : j / 2 < xs.length := by omega
  have h := nc_at xs (j / 2) hk
  split
  · rw [show j = j / 2 * 2 by omega, h.1]; simp [hk]
  · rw [show j = j / 2 * 2 + 1 by omega, h.2]; simp only [Option.some.injEq]; rw [show (j / 2 * 2 + 1) / 2 = j / 2 by omega]; simp [hk]

theorem open_RNm {H : Type} {enc : TypeId × Value → H} {W : World} {v : Value} {d : DataW H} {p : List MemPlace} (hv : ∃ a len cap, v = .slice a len cap)
    (h0 : DataW.Trod enc Try.prog W 0 (fun _ => true) true 22 v d p) : ∃ xs, RN W 0 W.heap.size v xs := by
  obtain ⟨a, len, cap, rfl⟩ := hv
  obtain ⟨fuel, hf⟩ := h0
  rcases Go.Deep.open_slice_pairs Try.underlying22 Try.underlying42 (by kernel_rfl) rfl rfl (by kernel_rfl) (by kernel_rfl) hf with ⟨hcs, _⟩ | ⟨x, l, c, m, n, V0, V1, D0, D1, P0, P1, hcs, _, hl, hm, hmm, _, hcell⟩
  · simp [Value.cells] at hcs
    obtain ⟨rfl, rfl, rfl⟩ := hcs
    exact ⟨[], ⟨by simp [nc], none, 0, 0, 0, rfl, Nat.le_refl _, by simp [maxLen], fun h => by simp at h, fun j hj => by simp at hj⟩, fun _ h => by simp at h⟩
  · simp [Value.cells] at hcs
    obtain ⟨rfl, rfl, rfl⟩ := hcs
    simp only [if_true] at hmm
    subst hmm
    have hint : ∀ i, i < m → V0 i = .string (strOf (V0 i)) ∧ V1 i = .int .i64 (intOf (V1 i)) ∧ N64 (strOf (V0 i), intOf (V1 i)) := by
      intro i hi
      obtain ⟨-, -, t0, t1⟩ := hcell i hi
      obtain ⟨x0, e0, -, w0⟩ := DataW.trod_string Try.underlying9 t0
      obtain ⟨x1, e1, -, w1⟩ := DataW.trod_int Try.underlying3 t1
      simp only [List.cons.injEq, and_true] at e0 e1
      rw [e0, e1]
      exact ⟨rfl, rfl, show x0.size ≤ _ by simpa [maxLen] using w0, i64_of_wf w1⟩
    refine ⟨(List.range len).map fun i => (strOf (V0 i), intOf (V1 i)), ?_, ?_⟩
    · obtain ⟨b, off, spot⟩ := x
      have hsp : 0 < len → spot = none := fun hn => by
        have hc := (hcell 0 (by omega)).1
        simpa [Addr.add] using World.cell?_spot hc
      refine ⟨by rw [nc_len], some ⟨b, off, spot⟩, m, b, off, by simp, by simpa using hl, hm, fun hn => ?_, fun j hj => ?_⟩
      · simp at hn
        obtain rfl := hsp hn
        have hc := (hcell 0 (by omega)).1
        exact ⟨rfl, Nat.zero_le _, World.block_lt_of_cell? W _ hc⟩
      · have hj' : j < len * 2 := by simpa using hj
        obtain rfl := hsp (by omega)
        rw [nc_get _ j hj]
        have hk : j / 2 < len := by omega
        have hi := hint (j / 2) (by omega)
        have hc := hcell (j / 2) (by omega)
        have add_plain : ∀ k, (⟨b, off, none⟩ : Addr).add k = ⟨b, off + k, none⟩ := fun k => by
          unfold Addr.add; split <;> rename_i h0
          · subst h0; rfl
          · rfl
        rw [add_plain, add_plain] at hc
        split
        · rw [show off + j = off + j / 2 * 2 by omega, hc.1, hi.1]; simp [hk]
        · rw [show off + j = off + (j / 2 * 2 + 1) by omega, hc.2.1, hi.2.1]; simp [hk]
    · intro e he
      obtain ⟨i, hi, rfl⟩ := List.mem_map.1 he
      exact (hint i (by have := List.mem_range.1 hi; omega)).2.2

/-- A name by value. -/
def R1 (v : Value) (e : ByteArray × Int) : Prop := v = .agg #[.string e.1, .int .i64 e.2] ∧ N64 e
theorem open_RN1 {H : Type} {enc : TypeId × Value → H} {W : World} {r : Reach} {b0 : Nat} {v : Value} {d : DataW H} {p : List MemPlace} (hv : Value.okWide Try.prog W r b0 42 v)
    (h0 : DataW.Trod enc Try.prog W 0 (fun _ => true) true 42 v d p) : ∃ e, R1 v e := by
  obtain ⟨v0, v1, y0, y1, n, rfl, -, -, t0, t1⟩ := Go.Joins.open_agg2 Try.underlying42 (by kernel_rfl) (by kernel_rfl) hv h0
  obtain ⟨x0, e0, -, w0⟩ := DataW.trod_string Try.underlying9 t0
  obtain ⟨x1, e1, -, w1⟩ := DataW.trod_int Try.underlying3 t1
  simp only [List.cons.injEq, and_true] at e0 e1
  subst e0; subst e1
  exact ⟨(x0, x1), rfl, by simpa [maxLen] using w0, i64_of_wf w1⟩

end Go.Proofs.Ythhganlnljoinaa
