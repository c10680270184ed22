/-
  The walk of l13Age.
-/
import Derived.Test.YtgmkkajdmbmliaaBvp
import Derived.Test.YtgmkkajdmbmliaaGvw
namespace Go.Proofs.Ytgmkkajdmbmliaa
open Go.RowKit

set_option maxHeartbeats 1000000 in
theorem specAge_any (v : Value) (b : Bk) (now : Int) (lo hi : Nat) (w : World) (h : RB1 w lo hi v b) (hk : bkOk b = true) (hn0 : 0 ≤ now) (hn1 : now ≤ 1000000) :
    Calls Try.prog 20 #[v, .int .i64 now] w fun e w' => e = .returned (.int .i64 (ageOf b now)) ∧ Below w.heap.size w w' := by
  obtain ⟨s, rfl, hw, hp⟩ := h
  obtain ⟨a, cap, b0, off, rfl, q1, q2, q3, q4⟩ := hp.open
  have h4 := (bkOk_iff.1 hk).2.1
  have HL := Lib.hid (lastN_bd hk)
  have HB0 := Lib.hid (balloc w (.cells #[.int .i64 b.wear, .slice a b.pages.length cap] 54))
  have X0 := Lib.hid (heap_alloc_new w (.cells #[.int .i64 b.wear, .slice a b.pages.length cap] 54))
  have Q4 := Lib.hid q4
  have hx : b.pages.length ≤ 1048576 := by omega
  clear hp q4 hk h4
  go_enter Try.func20, Try.ntmps20
  go_wp2_with fail
  go_loopw [5, 6] (fun m i wr => ∃ k : Nat, k ≤ b.pages.length ∧ i = .int .i64 k ∧ m = .int .i64 (lastN b.pages k) ∧ Below w.heap.size w wr ∧ wr.heap[w.heap.size]? = some (.cells #[.int .i64 b.wear, .slice a b.pages.length cap] 54)) (fun _ i _ => b.pages.length - (intOf i).toNat)
  case atStart => exact ⟨0, Nat.zero_le _, rfl, rfl, HB0.out, X0.out⟩
  case round =>
    obtain ⟨k, hk, rfl, rfl, hbr, hbx⟩ := hrel
    have HR := Lib.hid (And.intro hbr hbx)
    obtain ⟨⟨d1, d2⟩, -⟩ := two_at hbx
    clear hbr hbx
    have hbd := HL.out k
    by_cases hlt : k < b.pages.length
    · obtain rfl := q3 (by omega)
      have hki : (k : Int) < (b.pages.length : Int) := by omega
      obtain ⟨e0, e1, e2, e3, e4⟩ := (Q4.out k hlt).below HR.out.1
      have hst := lastN_step hlt
      generalize b.pages[k] = p at e0 e1 e2 e3 e4 hst
      have HN := Lib.hid hst
      clear hst q3
      go_wp2_with fail
      go_roundw
      case rel => exact ⟨k + 1, by omega, by go_num, by rw [HN.out], HR.out.1, HR.out.2⟩
      case measure => simp [intOf]; omega
    · have hki : ¬ (k : Int) < (b.pages.length : Int) := by omega
      obtain rfl : k = b.pages.length := by omega
      go_wp2_with fail
      go_ret
      exact ⟨rfl, HR.out.1⟩

end Go.Proofs.Ytgmkkajdmbmliaa
