/-
  The walk of the exact law over UnpackSmall.
-/
import Derived.Test.YtcjnbjbiiadieaaUnp
namespace Go.Proofs.Ytcjnbjbiiadieaa
open Go.RowKit

theorem unpL_len (n : Int) : (unpL n).length ≤ 4 := by
  unfold unpL
  repeat' split
  all_goals simp [digs_len]

set_option maxHeartbeats 800000 in
theorem FnExactUnpackSmall_walk (w : World) (n : Int) (hn : I64 n) :
    Calls Try.prog 13 #[.int .i64 n] w fun e w' => e = .returned (.bool true) ∧ Below w.heap.size w w' := by
  have hl := unpL_len n
  have HL := Lib.hid hl
  clear hl
  go_enter Try.func13, Try.ntmps13
  go_wp2_with fail
  refine (specUnp_any n hn _).mono ?_
  rintro e w1 ⟨v1, rfl, o1, b1⟩
  go_wp2_with fail
  refine (implUnp_any n hn _).mono ?_
  rintro e w2 ⟨v2, rfl, o2, b2⟩
  go_wp2_with fail
  refine (eqIntS_any v2 v1 (unpL n) _ _ _ _ _ o2.ri (o1.below b2).ri (by have := HL.out; omega)).mono ?_
  rintro e w3 ⟨rfl, b3⟩
  go_wp2_with fail
  refine (markIntS_any v2 _ w1.heap.size (unpL n).length 1 w3 (o2.below b3).1 (by have := HL.out; omega) (by omega) (by omega)).mono ?_
  rintro e w4 ⟨rfl, o4, c4, s4⟩
  go_wp2_with fail
  refine (heldIntS_any v2 _ _ (unpL n).length 1 w4 (reads_own o4) (by have := HL.out; omega) (by omega) (by omega)).mono ?_
  rintro e w' ⟨rfl, rfl⟩
  have hb := o2.lt
  have hs1 := b1.size
  have hs2 := b2.size
  have hs3 := b3.size
  have r1 := ((o1.ri.below b2).below b3).chg c4 (fun b _ hb2 he => by have := (hb b he).1; omega)
  have bb := bup (bup b1 (Nat.le_refl _) b2) (Nat.le_refl _) b3
  have bc := bb.trans (c4.below bb.size (fun k hk he => by have := (hb k he).1; omega))
  have HR1 := Lib.hid r1
  have HBC := Lib.hid bc
  have HO4 := Lib.hid o4
  clear r1 bb bc o4 c4 b1 b2 b3 o1 o2 hb hs1 hs2 hs3 s4
  have hq : (((1 : Int) + ((unpL n).length : Int)) != 1 + ((unpL n).length : Int)) = false := by simp
  go_wp2_with fail
  refine (implUnp_any n hn _).mono ?_
  rintro e w5 ⟨v5, rfl, o5, b5⟩
  go_wp2_with fail
  refine (eqIntS_any v5 v1 (unpL n) _ _ _ _ _ o5.ri (HR1.out.below b5) (by have := HL.out; omega)).mono ?_
  rintro e w6 ⟨rfl, b6⟩
  go_wp2_with fail
  refine (heldIntS_any v2 _ _ (unpL n).length 1 w6 (((reads_own HO4.out).below b5).below b6) (by have := HL.out; omega) (by omega) (by omega)).mono ?_
  rintro e w' ⟨rfl, rfl⟩
  have hf := Lib.hid (bup (bup HBC.out (Nat.le_refl _) b5) (Nat.le_refl _) b6)
  clear b5 b6 o5
  go_wp2_with fail
  all_goals (go_ret; exact ⟨rfl, hf.out⟩)

end Go.Proofs.Ytcjnbjbiiadieaa
