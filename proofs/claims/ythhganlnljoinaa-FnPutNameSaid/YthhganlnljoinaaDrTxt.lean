/-
  The draws of texts.
-/
import Derived.Test.YthhganlnljoinaaRd
namespace Go.Proofs.Ythhganlnljoinaa
open Go.RowKit

/-- A short text was drawn. -/
def TextR (rb q : Nat) (w : World) (e : Ending) (w' : World) : Prop :=
  ∃ s : ByteArray, e = .returned (.string s) ∧ s.size ≤ 9 ∧ RdLe w' rb (q + 2) ∧ Chg (· = rb) w w'

set_option maxHeartbeats 1000000 in
theorem l20Text_any (w : World) (rb q : Nat) (m : Int) (hr : RdLe w rb q) (hq : q ≤ 900000) (hm1 : 0 ≤ m) (hm : m ≤ 1000000) :
    Calls Try.prog 41 #[.pointer (some ⟨rb, 0, none⟩), .int .i64 m] w (TextR rb q w) := by
  have H := Lib.hid hr
  clear hr
  go_enter Try.func41, Try.ntmps41
  go_wp2_with fail
  refine (odd_le _ rb q m H.out (by omega) hm1 hm).mono ?_
  rintro e w1 ⟨b, rfl, r1, c1, -⟩
  have z1 := c1.size
  have H1 := Lib.hid r1
  have C1 := Lib.hid c1
  have hrl := H.out.lt
  clear r1 c1
  cases b
  · go_wp2_with fail
    refine (pick_le _ rb (q + 1) 8 ((H1.out).kept ((Below.refl _ _).alloc (Nat.le_refl _) _)) (by omega) (by omega) (by omega)).mono ?_
    rintro e w2 ⟨k, rfl, k0, k1, r2, c2, -⟩
    obtain ⟨n, rfl⟩ := Int.eq_ofNat_of_zero_le k0
    have hk : ∃ s : ByteArray, w2.cell? ⟨w1.heap.size, n, none⟩ = some (.string s) ∧ s.size ≤ 9 := by
      have hn : n = 0 ∨ n = 1 ∨ n = 2 ∨ n = 3 ∨ n = 4 ∨ n = 5 ∨ n = 6 ∨ n = 7 := by omega
      rcases hn with rfl | rfl | rfl | rfl | rfl | rfl | rfl | rfl
      all_goals exact ⟨_, lit_cell c2 (by show ¬ w1.heap.size = rb; omega) rfl, by decide⟩
    obtain ⟨s, hk, hsz⟩ := hk
    have HF := Lib.hid (And.intro r2 (((C1.out).alloc _).trans c2))
    clear r2 c2
    go_wp2_with fail
    all_goals (go_ret; exact ⟨_, rfl, hsz, HF.out.1.up (by omega), HF.out.2⟩)
  · go_wp2_with fail
    refine (pick_le _ rb (q + 1) 4 ((H1.out).kept ((Below.refl _ _).alloc (Nat.le_refl _) _)) (by omega) (by omega) (by omega)).mono ?_
    rintro e w2 ⟨k, rfl, k0, k1, r2, c2, -⟩
    obtain ⟨n, rfl⟩ := Int.eq_ofNat_of_zero_le k0
    have hk : ∃ s : ByteArray, w2.cell? ⟨w1.heap.size, n, none⟩ = some (.string s) ∧ s.size ≤ 9 := by
      have hn : n = 0 ∨ n = 1 ∨ n = 2 ∨ n = 3 := by omega
      rcases hn with rfl | rfl | rfl | rfl
      all_goals exact ⟨_, lit_cell c2 (by show ¬ w1.heap.size = rb; omega) rfl, by decide⟩
    obtain ⟨s, hk, hsz⟩ := hk
    have HF := Lib.hid (And.intro r2 (((C1.out).alloc _).trans c2))
    clear r2 c2
    go_wp2_with fail
    all_goals (go_ret; exact ⟨_, rfl, hsz, HF.out.1.up (by omega), HF.out.2⟩)

/-- A short text, out of a code. -/
def TextD (w : World) (e : Ending) (w' : World) : Prop := ∃ s : ByteArray, e = .returned (.string s) ∧ s.size ≤ 9 ∧ Below w.heap.size w w'



end Go.Proofs.Ythhganlnljoinaa
