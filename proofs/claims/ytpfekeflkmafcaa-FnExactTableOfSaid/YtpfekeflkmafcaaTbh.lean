/-
  The walks of the laws' helpers over tables: to, sz, eq.
-/
import Derived.Test.YtpfekeflkmafcaaTab
namespace Go.Proofs.Ytpfekeflkmafcaa
open Go.RowKit





theorem three_new {w w2 : World} (o1 o2 o3 : Obj) (h : Below (((w.alloc o1).alloc o2).alloc o3).heap.size (((w.alloc o1).alloc o2).alloc o3) w2) :
    w2.heap[w.heap.size + 1]? = some o2 ∧ w2.heap[w.heap.size + 1 + 1]? = some o3 := by
  have e1 : (((w.alloc o1).alloc o2).alloc o3).heap[w.heap.size + 1]? = some o2 := by
    rw [Below.heap_alloc _ _ _ (by simp)]
    have := heap_alloc_new (w.alloc o1) o2
    simpa using this
  have e2 : (((w.alloc o1).alloc o2).alloc o3).heap[w.heap.size + 1 + 1]? = some o3 := by
    have := heap_alloc_new ((w.alloc o1).alloc o2) o3
    simpa using this
  exact ⟨(h.block _ (by simp <;> omega)).trans e1, (h.block _ (by simp <;> omega)).trans e2⟩
theorem one_at {w : World} {B : Nat} {u : Value} {t : TypeId} (h : w.heap[B]? = some (.cells #[u] t (0, 0))) : w.cell? ⟨B, 0, none⟩ = some u ∧ w.frozen? ⟨B, 0, none⟩ = false := by
  simp [World.cell?, World.frozen?, h]

set_option maxHeartbeats 1000000 in
theorem eqIntSS_any (v v2 : Value) (xs : List (List Int)) (lo hi lo2 hi2 : Nat) (w : World) (h : RT w lo hi v xs) (h2 : RT w lo2 hi2 v2 xs) (hx : tsz xs ≤ 1048576) :
    Calls Try.prog 30 #[v, v2] w fun e w' => e = .returned (.bool true) ∧ Below w.heap.size w w' := by
  obtain ⟨a, cap, b, off, rfl, q1, q2, q3, q4⟩ := h.open
  obtain ⟨a', cap', b', off', rfl, r1, r2, r3, r4⟩ := h2.open
  have Q4 := Lib.hid q4
  have R4 := Lib.hid r4
  obtain ⟨hx1, hx2⟩ := tsz_row hx
  have HX := Lib.hid hx2
  clear h h2 q4 r4 hx hx2
  go_enter Try.func30, Try.ntmps30
  go_wp2
  go_loopw [5] (fun i wr => ∃ k : Nat, k ≤ xs.length ∧ i = .int .i64 k ∧ Below w.heap.size w wr) (fun i _ => xs.length - (intOf i).toNat)
  case atStart => exact ⟨0, Nat.zero_le _, rfl, Below.refl _ _⟩
  case round =>
    obtain ⟨k, hk, rfl, hbr⟩ := hrel
    have HB := Lib.hid hbr
    clear hbr
    by_cases hlt : k < xs.length
    · obtain rfl := q3 (by omega)
      obtain rfl := r3 (by omega)
      obtain ⟨u, hcu, hu⟩ := Q4.out k hlt
      obtain ⟨u', hcu', hu'⟩ := R4.out k hlt
      have c1 := cell_later HB.out hcu
      have c3 := cell_later HB.out hcu'
      have HU := Lib.hid (And.intro (hu.below HB.out.drew) (hu'.below HB.out.drew))
      have hxk := HX.out k hlt
      clear q3 r3 hcu hcu' hu hu'
      go_wp2
      go_region_held3 (fun w' => w'.cell? ⟨b, off + k, none⟩ = some u ∧ w'.cell? ⟨b', off' + k, none⟩ = some u')
        (first | exact ⟨c1, c3⟩ | exact ⟨cell_later (w := wr.drew) (by assumption) c1, cell_later (w := wr.drew) (by assumption) c3⟩)
        (first | (go_at_call 47; refine (eqIntS_any u u' xs[k] _ _ _ _ _ HU.out.1 HU.out.2 hxk).mono ?_; rintro e w2 ⟨rfl, b2⟩))
      have b2' : Below wr.drew.heap.size wr.drew w2 := by assumption
      have HF := Lib.hid (bup HB.out.drew (Nat.le_refl _) b2')
      clear b2'
      go_wp2
      go_roundw
      case rel => exact ⟨k + 1, by omega, by go_num, HF.out⟩
      case measure => simp [intOf]; omega
    · go_wp2
      go_ret
      exact ⟨rfl, HB.out⟩

theorem eqTable_any (v v2 : Value) (xs : List (List Int)) (lo hi lo2 hi2 : Nat) (w : World) (h : RT w lo hi v xs) (h2 : RT w lo2 hi2 v2 xs) (hx : tsz xs ≤ 1048576) :
    Calls Try.prog 9 #[.agg #[v], .agg #[v2]] w fun e w' => e = .returned (.bool true) ∧ Below w.heap.size w w' := by
  have H := Lib.hid (And.intro h h2)
  obtain ⟨a, cap, b, off, rfl, -⟩ := h.open
  obtain ⟨a', cap', b', off', rfl, -⟩ := h2.open
  have hb0 := ((Below.refl w.heap.size w).alloc (Nat.le_refl _) (.cells #[.slice a xs.length cap] 26)).alloc (by simp) (.cells #[.slice a' xs.length cap'] 26)
  have HB := Lib.hid hb0
  clear h h2 hb0
  go_enter Try.func9, Try.ntmps9
  go_wp2_with fail
  refine (eqIntSS_any _ _ xs _ _ _ _ _ (H.out.1.below HB.out) (H.out.2.below HB.out) hx).mono ?_
  rintro e w3 ⟨rfl, b3⟩
  have HF := Lib.hid (bup HB.out (Nat.le_refl _) b3)
  clear b3
  go_wp2_with fail
  go_ret
  exact ⟨rfl, HF.out⟩

end Go.Proofs.Ytpfekeflkmafcaa
