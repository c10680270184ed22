/-
  The walks of FreePages, both ways.
-/
import Derived.Test.YtgmkkajdmbmliaaBcp
import Derived.Test.YtgmkkajdmbmliaaDvr
import Derived.Test.YtgmkkajdmbmliaaDvh
namespace Go.Proofs.Ytgmkkajdmbmliaa
open Go.RowKit

theorem nfull_step {l : List Pg} {k : Nat} (hk : k < l.length) : nfull (l.take (k + 1)) = nfull (l.take k) + if l[k].full = true then 1 else 0 := by
  rw [nfull_take hk]
  cases l[k].full <;> simp
theorem nfull_take_le (l : List Pg) (k : Nat) : nfull (l.take k) ≤ k := by
  have := nfull_le (l.take k)
  rw [List.length_take] at this
  omega

theorem RB1.keep {w w' : World} {lo hi : Nat} {v : Value} {b : Bk} (h : RB1 w lo hi v b) (hk : Below w.heap.size w w') : RB1 w' lo hi v b := by
  obtain ⟨s, rfl, h1, h2⟩ := h
  exact ⟨s, rfl, h1, h2.below hk⟩

set_option maxHeartbeats 1000000 in
theorem written_any (v : Value) (b : Bk) (lo hi : Nat) (w : World) (h : RB1 w lo hi v b) (hx : b.pages.length ≤ 1048576) :
    Calls Try.prog 44 #[v] w fun e w' => e = .returned (.int .i64 (nfull b.pages)) ∧ Below w.heap.size w w' := by
  obtain ⟨s, rfl, hw, hp⟩ := h
  obtain ⟨a, cap, b0, off, rfl, q1, q2, q3, q4⟩ := hp.open
  have HB0 := Lib.hid (balloc w (.cells #[.int .i64 b.wear, .slice a b.pages.length cap] 54))
  have Q4 := Lib.hid q4
  clear hp q4
  go_enter Try.func44, Try.ntmps44
  go_wp2_with fail
  go_loopw [3, 9] (fun c i wr => ∃ k : Nat, k ≤ b.pages.length ∧ i = .int .i64 k ∧ c = .int .i64 (nfull (b.pages.take k)) ∧ Below w.heap.size w wr) (fun _ i _ => b.pages.length - (intOf i).toNat)
  case atStart => exact ⟨0, Nat.zero_le _, rfl, rfl, HB0.out⟩
  case round =>
    obtain ⟨k, hk, rfl, rfl, hbr⟩ := hrel
    have HB := Lib.hid hbr
    clear hbr
    have hnl := nfull_take_le b.pages k
    by_cases hlt : k < b.pages.length
    · obtain rfl := q3 (by omega)
      have hki : (k : Int) < (b.pages.length : Int) := by omega
      obtain ⟨e0, e1, e2, e3, e4⟩ := (Q4.out k hlt).below HB.out
      have hst := nfull_step hlt
      generalize b.pages[k] = p at e0 e1 e2 e3 e4 hst
      have HB6 := Lib.hid (bup2 HB.out (balloc wr (.cells #[.bool p.full, .int .i64 p.file, .int .i64 p.place, .int .i64 p.value, .int .i64 p.stamp] 61)))
      cases hf : p.full
      all_goals
        rw [hf] at e0 hst HB6
        simp only [if_true, Bool.false_eq_true, if_false, Nat.add_zero] at hst
        have HST := Lib.hid hst
        clear q3 hst hf
        go_wp2_with fail
        go_roundw
        case rel => exact ⟨k + 1, by omega, by go_num, by rw [HST.out]; try go_num, HB6.out⟩
        case measure => simp [intOf]; omega
    · have hki : ¬ (k : Int) < (b.pages.length : Int) := by omega
      have hall : b.pages.take k = b.pages := List.take_of_length_le (by omega)
      rw [hall]
      go_wp2_with fail
      go_ret
      exact ⟨rfl, HB.out⟩



end Go.Proofs.Ytgmkkajdmbmliaa
