/-
  Texts of this claim, laid together: Dra.
-/
import Derived.Test.YtjmofmdcegefgaaQ03
import Derived.Test.YtjmofmdcegefgaaQ27
namespace Go.Proofs.Ytjmofmdcegefgaa
open Go.RowKit
set_option linter.unusedSimpArgs false
set_option linter.unusedVariables false
set_option linter.unnecessarySimpa false
variable {H : Nat}

/-- A reader at place q at most; since w only the reader has turned. -/
def Dr (H : Nat) (w : World) (rb q : Nat) (wr : World) : Prop := RdLe H wr rb q ∧ Chg (· = rb) w wr ∧ rb < w.heap.size
theorem Dr.start {w : World} {rb q : Nat} (h : RdLe H w rb q) : Dr H w rb q w := ⟨h, Chg.refl _ _, h.lt⟩
theorem Dr.below {w wr w' : World} {rb q : Nat} (h : Dr H w rb q wr) (b : Below wr.heap.size wr w') : Dr H w rb q w' := ⟨h.1.kept b, h.2.1.trans (below_chg b _), h.2.2⟩
theorem Dr.pick {w wr w' : World} {rb q q' : Nat} (h : Dr H w rb q wr) (c : Chg (· = rb) wr w') (r : RdLe H w' rb q') : Dr H w rb q' w' := ⟨r, h.2.1.trans c, h.2.2⟩
theorem Dr.own {w wr w' : World} {rb q : Nat} (h : Dr H w rb q wr) (c : Chg (fun i => w.heap.size ≤ i) wr w') : Dr H w rb q w' :=
  ⟨h.1.chg c (fun k hk hs => by have := h.2.2; omega), h.2.1.own c, h.2.2⟩
theorem Dr.up {w wr : World} {rb q q' : Nat} (h : Dr H w rb q wr) (hq : q ≤ q') : Dr H w rb q' wr := ⟨h.1.up hq, h.2⟩
theorem Dr.size {w wr : World} {rb q : Nat} (h : Dr H w rb q wr) : w.heap.size ≤ wr.heap.size := h.2.1.size
/-- A box of the call's own stays behind a pick. -/
theorem Dr.box {w wr w' : World} {rb q B : Nat} {o : Obj} (h : Dr H w rb q wr) (hB : w.heap.size ≤ B) (c : Chg (· = rb) wr w') (hx : wr.heap[B]? = some o) : w'.heap[B]? = some o := box_chg hx c (by have := h.2.2; omega)

/-- A written page. -/
def FullR (H rb q : Nat) (st : Int) (w : World) (e : Ending) (w' : World) : Prop := ∃ f p v : Int, e = .returned (pgv ⟨true, f, p, v, st⟩) ∧ (0 ≤ f ∧ f < 4) ∧ (0 ≤ p ∧ p < 4) ∧ (0 ≤ v ∧ v < 100) ∧ Dr H w rb (q + 3) w'

set_option maxHeartbeats 1000000 in
theorem full_any (w : World) (rb q : Nat) (st : Int) (hr : RdLe H w rb q) (hq : q ≤ 100000) : Calls Try.prog 76 #[.pointer (some ⟨rb, 0, none⟩), .int .i64 st] w (FullR H rb q st w) := by
  have D := Lib.hid ((Dr.start hr).below (balloc w pbox))
  have X := Lib.hid (heap_alloc_new w pbox)
  clear hr
  go_enter Try.func76, Try.ntmps76
  go_wp2_with fail
  refine (pick_le _ rb q 4 D.out.1 (by omega) (by omega) (by omega)).mono ?_
  rintro e w1 ⟨f, rfl, f0, f1, r1, c1, -⟩
  replace X := Lib.hid (D.out.box (Nat.le_refl _) c1 X.out)
  replace D := Lib.hid (D.out.pick c1 r1)
  clear r1 c1
  go_wp2_with fail
  refine (pick_le _ rb _ 4 D.out.1 (by omega) (by omega) (by omega)).mono ?_
  rintro e w2 ⟨p, rfl, p0, p1, r1, c1, -⟩
  replace X := Lib.hid (D.out.box (Nat.le_refl _) c1 X.out)
  replace D := Lib.hid (D.out.pick c1 r1)
  clear r1 c1
  go_wp2_with fail
  refine (pick_le _ rb _ 100 D.out.1 (by omega) (by omega) (by omega)).mono ?_
  rintro e w3 ⟨v, rfl, v0, v1, r1, c1, -⟩
  replace X := Lib.hid (D.out.box (Nat.le_refl _) c1 X.out)
  replace D := Lib.hid (D.out.pick c1 r1)
  obtain ⟨d0, d1, d2, d3, d4, d5, d6, d7, d8, d9⟩ := pbox_at X.out
  clear r1 c1
  go_wp2_with fail
  have hc : Chg (fun i => w.heap.size ≤ i) w3 (((((w3.setCell ⟨w.heap.size, 0, none⟩ (.bool true)).setCell ⟨w.heap.size, 1, none⟩ (.int .i64 f)).setCell ⟨w.heap.size, 2, none⟩ (.int .i64 p)).setCell ⟨w.heap.size, 3, none⟩ (.int .i64 v)).setCell ⟨w.heap.size, 4, none⟩ (.int .i64 st)) := chg5 (Chg.refl _ w3) (.inr (Nat.le_refl _)) _ _ _ _ _ _ _ _ _ _
  exact bodyPost_ret (v := pgv ⟨true, f, p, v, st⟩) (by simp [results, Try.results76, go_sem, d0, d1, d2, d3, d4, pgv]) rfl ⟨f, p, v, rfl, ⟨f0, f1⟩, ⟨p0, p1⟩, ⟨v0, v1⟩, D.out.own hc⟩

/-- Some page. -/
def PageR (H rb q : Nat) (w : World) (e : Ending) (w' : World) : Prop := ∃ p : Pg, e = .returned (pgv p) ∧ PgI p ∧ Dr H w rb (q + 6) w'

set_option maxHeartbeats 4000000 in
set_option maxRecDepth 4000 in
theorem page_any (w : World) (rb q : Nat) (m : Int) (hr : RdLe H w rb q) (hq : q ≤ 100000) (hm1 : 0 ≤ m) (hm : m ≤ 1000) : Calls Try.prog 90 #[.pointer (some ⟨rb, 0, none⟩), .int .i64 m] w (PageR H rb q w) := by
  have D := Lib.hid ((Dr.start hr).below (balloc w pbox))
  have X := Lib.hid (heap_alloc_new w pbox)
  clear hr
  go_enter Try.func90, Try.ntmps90
  go_wp2_with fail
  refine (odd_le _ rb q m D.out.1 (by omega) hm1 (by omega)).mono ?_
  rintro e w1 ⟨bb, rfl, r1, c1, -⟩
  replace X := Lib.hid (D.out.box (Nat.le_refl _) c1 X.out)
  replace D := Lib.hid (D.out.pick c1 r1)
  clear r1 c1
  cases bb
  · go_wp2_with fail
    refine (pick_le _ rb _ 5 D.out.1 (by omega) (by omega) (by omega)).mono ?_
    rintro e w2 ⟨x, rfl, x0, x1, r1, c1, -⟩
    replace X := Lib.hid (D.out.box (Nat.le_refl _) c1 X.out)
    replace D := Lib.hid (D.out.pick c1 r1)
    clear r1 c1
    cases hx : (x == 0)
    · go_wp2_with fail
      refine (pick_le _ rb _ 3 D.out.1 (by omega) (by omega) (by omega)).mono ?_
      rintro e w3 ⟨f, rfl, f0, f1, r1, c1, -⟩
      replace X := Lib.hid (D.out.box (Nat.le_refl _) c1 X.out)
      replace D := Lib.hid (D.out.pick c1 r1)
      clear r1 c1
      go_wp2_with fail
      refine (pick_le _ rb _ 3 D.out.1 (by omega) (by omega) (by omega)).mono ?_
      rintro e w4 ⟨p, rfl, p0, p1, r1, c1, -⟩
      replace X := Lib.hid (D.out.box (Nat.le_refl _) c1 X.out)
      replace D := Lib.hid (D.out.pick c1 r1)
      clear r1 c1
      go_wp2_with fail
      refine (pick_le _ rb _ 100 D.out.1 (by omega) (by omega) (by omega)).mono ?_
      rintro e w5 ⟨v, rfl, v0, v1, r1, c1, -⟩
      replace X := Lib.hid (D.out.box (Nat.le_refl _) c1 X.out)
      replace D := Lib.hid (D.out.pick c1 r1)
      clear r1 c1
      go_wp2_with fail
      refine (pick_le _ rb _ 9 D.out.1 (by omega) (by omega) (by omega)).mono ?_
      rintro e w6 ⟨st, rfl, s0, s1, r1, c1, -⟩
      replace X := Lib.hid (D.out.box (Nat.le_refl _) c1 X.out)
      replace D := Lib.hid (D.out.pick c1 r1)
      obtain ⟨d0, d1, d2, d3, d4, d5, d6, d7, d8, d9⟩ := pbox_at X.out
      clear r1 c1
      go_wp2_with fail
      have hc : Chg (fun i => w.heap.size ≤ i) w6 (((((w6.setCell ⟨w.heap.size, 0, none⟩ (.bool true)).setCell ⟨w.heap.size, 1, none⟩ (.int .i64 f)).setCell ⟨w.heap.size, 2, none⟩ (.int .i64 p)).setCell ⟨w.heap.size, 3, none⟩ (.int .i64 v)).setCell ⟨w.heap.size, 4, none⟩ (.int .i64 (1 + st))) := chg5 (Chg.refl _ w6) (.inr (Nat.le_refl _)) _ _ _ _ _ _ _ _ _ _
      exact bodyPost_ret (v := pgv ⟨true, f, p, v, 1 + st⟩) (by simp [results, Try.results90, go_sem, d0, d1, d2, d3, d4, pgv]) rfl ⟨⟨true, f, p, v, 1 + st⟩, rfl, by unfold PgI I64; simp only; omega, (D.out.own hc).up (by omega)⟩
    · obtain ⟨d0, d1, d2, d3, d4, d5, d6, d7, d8, d9⟩ := pbox_at X.out
      go_wp2_with fail
      have hc : Chg (fun i => w.heap.size ≤ i) w2 (((((w2.setCell ⟨w.heap.size, 0, none⟩ (.bool false)).setCell ⟨w.heap.size, 1, none⟩ (.int .i64 0)).setCell ⟨w.heap.size, 2, none⟩ (.int .i64 0)).setCell ⟨w.heap.size, 3, none⟩ (.int .i64 0)).setCell ⟨w.heap.size, 4, none⟩ (.int .i64 0)) := chg5 (Chg.refl _ w2) (.inr (Nat.le_refl _)) _ _ _ _ _ _ _ _ _ _
      exact bodyPost_ret (v := pgv ⟨false, 0, 0, 0, 0⟩) (by simp [results, Try.results90, go_sem, d0, d1, d2, d3, d4, pgv]) rfl ⟨⟨false, 0, 0, 0, 0⟩, rfl, by unfold PgI I64; simp only; omega, (D.out.own hc).up (by omega)⟩
  · have XL := Lib.hid (heap_alloc_new w1 (.cells #[.bool false, .int .i64 0, .int .i64 0, .int .i64 1, .int .i64 0, .bool true, .int .i64 0, .int .i64 0, .int .i64 0, .int .i64 0, .bool true, .int .i64 8, .int .i64 0, .int .i64 0, .int .i64 1, .bool true, .int .i64 0, .int .i64 (-1), .int .i64 0, .int .i64 1, .bool true, .int .i64 0, .int .i64 0, .int .i64 10000, .int .i64 1, .bool true, .int .i64 0, .int .i64 0, .int .i64 0, .int .i64 1000001] 53))
    have hz := D.out.size
    replace X := Lib.hid (box_keep X.out (balloc w1 (.cells #[.bool false, .int .i64 0, .int .i64 0, .int .i64 1, .int .i64 0, .bool true, .int .i64 0, .int .i64 0, .int .i64 0, .int .i64 0, .bool true, .int .i64 8, .int .i64 0, .int .i64 0, .int .i64 1, .bool true, .int .i64 0, .int .i64 (-1), .int .i64 0, .int .i64 1, .bool true, .int .i64 0, .int .i64 0, .int .i64 10000, .int .i64 1, .bool true, .int .i64 0, .int .i64 0, .int .i64 0, .int .i64 1000001] 53)))
    replace D := Lib.hid (D.out.below (balloc w1 (.cells #[.bool false, .int .i64 0, .int .i64 0, .int .i64 1, .int .i64 0, .bool true, .int .i64 0, .int .i64 0, .int .i64 0, .int .i64 0, .bool true, .int .i64 8, .int .i64 0, .int .i64 0, .int .i64 1, .bool true, .int .i64 0, .int .i64 (-1), .int .i64 0, .int .i64 1, .bool true, .int .i64 0, .int .i64 0, .int .i64 10000, .int .i64 1, .bool true, .int .i64 0, .int .i64 0, .int .i64 0, .int .i64 1000001] 53)))
    go_wp2_with fail
    refine (pick_le _ rb _ 6 D.out.1 (by omega) (by omega) (by omega)).mono ?_
    rintro e w2 ⟨x, rfl, x0, x1, r1, c1, -⟩
    replace X := Lib.hid (D.out.box (Nat.le_refl _) c1 X.out)
    replace XL := Lib.hid (D.out.box hz c1 XL.out)
    replace D := Lib.hid (D.out.pick c1 r1)
    obtain ⟨d0, d1, d2, d3, d4, d5, d6, d7, d8, d9⟩ := pbox_at X.out
    clear r1 c1
    obtain rfl | rfl | rfl | rfl | rfl | rfl : x = 0 ∨ x = 1 ∨ x = 2 ∨ x = 3 ∨ x = 4 ∨ x = 5 := by omega
    · have hXL := XL.out
      have y0 : w2.cell? ⟨w1.heap.size, 0, none⟩ = some (.bool false) := by simp [World.cell?, hXL]
      have y1 : w2.cell? ⟨w1.heap.size, 1, none⟩ = some (.int .i64 0) := by simp [World.cell?, hXL]
      have y2 : w2.cell? ⟨w1.heap.size, 2, none⟩ = some (.int .i64 0) := by simp [World.cell?, hXL]
      have y3 : w2.cell? ⟨w1.heap.size, 3, none⟩ = some (.int .i64 1) := by simp [World.cell?, hXL]
      have y4 : w2.cell? ⟨w1.heap.size, 4, none⟩ = some (.int .i64 0) := by simp [World.cell?, hXL]
      clear hXL
      go_wp2_with fail
      have hc : Chg (fun i => w.heap.size ≤ i) w2 (((((w2.setCell ⟨w.heap.size, 0, none⟩ (.bool false)).setCell ⟨w.heap.size, 1, none⟩ (.int .i64 0)).setCell ⟨w.heap.size, 2, none⟩ (.int .i64 0)).setCell ⟨w.heap.size, 3, none⟩ (.int .i64 1)).setCell ⟨w.heap.size, 4, none⟩ (.int .i64 0)) := chg5 (Chg.refl _ w2) (.inr (Nat.le_refl _)) _ _ _ _ _ _ _ _ _ _
      exact bodyPost_ret (v := pgv ⟨false, 0, 0, 1, 0⟩) (by simp [results, Try.results90, go_sem, d0, d1, d2, d3, d4, pgv]) rfl ⟨⟨false, 0, 0, 1, 0⟩, rfl, by unfold PgI I64; simp only; omega, (D.out.own hc).up (by omega)⟩
    · have hXL := XL.out
      have y0 : w2.cell? ⟨w1.heap.size, 5, none⟩ = some (.bool true) := by simp [World.cell?, hXL]
      have y1 : w2.cell? ⟨w1.heap.size, 6, none⟩ = some (.int .i64 0) := by simp [World.cell?, hXL]
      have y2 : w2.cell? ⟨w1.heap.size, 7, none⟩ = some (.int .i64 0) := by simp [World.cell?, hXL]
      have y3 : w2.cell? ⟨w1.heap.size, 8, none⟩ = some (.int .i64 0) := by simp [World.cell?, hXL]
      have y4 : w2.cell? ⟨w1.heap.size, 9, none⟩ = some (.int .i64 0) := by simp [World.cell?, hXL]
      clear hXL
      go_wp2_with fail
      have hc : Chg (fun i => w.heap.size ≤ i) w2 (((((w2.setCell ⟨w.heap.size, 0, none⟩ (.bool true)).setCell ⟨w.heap.size, 1, none⟩ (.int .i64 0)).setCell ⟨w.heap.size, 2, none⟩ (.int .i64 0)).setCell ⟨w.heap.size, 3, none⟩ (.int .i64 0)).setCell ⟨w.heap.size, 4, none⟩ (.int .i64 0)) := chg5 (Chg.refl _ w2) (.inr (Nat.le_refl _)) _ _ _ _ _ _ _ _ _ _
      exact bodyPost_ret (v := pgv ⟨true, 0, 0, 0, 0⟩) (by simp [results, Try.results90, go_sem, d0, d1, d2, d3, d4, pgv]) rfl ⟨⟨true, 0, 0, 0, 0⟩, rfl, by unfold PgI I64; simp only; omega, (D.out.own hc).up (by omega)⟩
    · have hXL := XL.out
      have y0 : w2.cell? ⟨w1.heap.size, 10, none⟩ = some (.bool true) := by simp [World.cell?, hXL]
      have y1 : w2.cell? ⟨w1.heap.size, 11, none⟩ = some (.int .i64 8) := by simp [World.cell?, hXL]
      have y2 : w2.cell? ⟨w1.heap.size, 12, none⟩ = some (.int .i64 0) := by simp [World.cell?, hXL]
      have y3 : w2.cell? ⟨w1.heap.size, 13, none⟩ = some (.int .i64 0) := by simp [World.cell?, hXL]
      have y4 : w2.cell? ⟨w1.heap.size, 14, none⟩ = some (.int .i64 1) := by simp [World.cell?, hXL]
      clear hXL
      go_wp2_with fail
      have hc : Chg (fun i => w.heap.size ≤ i) w2 (((((w2.setCell ⟨w.heap.size, 0, none⟩ (.bool true)).setCell ⟨w.heap.size, 1, none⟩ (.int .i64 8)).setCell ⟨w.heap.size, 2, none⟩ (.int .i64 0)).setCell ⟨w.heap.size, 3, none⟩ (.int .i64 0)).setCell ⟨w.heap.size, 4, none⟩ (.int .i64 1)) := chg5 (Chg.refl _ w2) (.inr (Nat.le_refl _)) _ _ _ _ _ _ _ _ _ _
      exact bodyPost_ret (v := pgv ⟨true, 8, 0, 0, 1⟩) (by simp [results, Try.results90, go_sem, d0, d1, d2, d3, d4, pgv]) rfl ⟨⟨true, 8, 0, 0, 1⟩, rfl, by unfold PgI I64; simp only; omega, (D.out.own hc).up (by omega)⟩
    · have hXL := XL.out
      have y0 : w2.cell? ⟨w1.heap.size, 15, none⟩ = some (.bool true) := by simp [World.cell?, hXL]
      have y1 : w2.cell? ⟨w1.heap.size, 16, none⟩ = some (.int .i64 0) := by simp [World.cell?, hXL]
      have y2 : w2.cell? ⟨w1.heap.size, 17, none⟩ = some (.int .i64 (-1)) := by simp [World.cell?, hXL]
      have y3 : w2.cell? ⟨w1.heap.size, 18, none⟩ = some (.int .i64 0) := by simp [World.cell?, hXL]
      have y4 : w2.cell? ⟨w1.heap.size, 19, none⟩ = some (.int .i64 1) := by simp [World.cell?, hXL]
      clear hXL
      go_wp2_with fail
      have hc : Chg (fun i => w.heap.size ≤ i) w2 (((((w2.setCell ⟨w.heap.size, 0, none⟩ (.bool true)).setCell ⟨w.heap.size, 1, none⟩ (.int .i64 0)).setCell ⟨w.heap.size, 2, none⟩ (.int .i64 (-1))).setCell ⟨w.heap.size, 3, none⟩ (.int .i64 0)).setCell ⟨w.heap.size, 4, none⟩ (.int .i64 1)) := chg5 (Chg.refl _ w2) (.inr (Nat.le_refl _)) _ _ _ _ _ _ _ _ _ _
      exact bodyPost_ret (v := pgv ⟨true, 0, (-1), 0, 1⟩) (by simp [results, Try.results90, go_sem, d0, d1, d2, d3, d4, pgv]) rfl ⟨⟨true, 0, (-1), 0, 1⟩, rfl, by unfold PgI I64; simp only; omega, (D.out.own hc).up (by omega)⟩
    · have hXL := XL.out
      have y0 : w2.cell? ⟨w1.heap.size, 20, none⟩ = some (.bool true) := by simp [World.cell?, hXL]
      have y1 : w2.cell? ⟨w1.heap.size, 21, none⟩ = some (.int .i64 0) := by simp [World.cell?, hXL]
      have y2 : w2.cell? ⟨w1.heap.size, 22, none⟩ = some (.int .i64 0) := by simp [World.cell?, hXL]
      have y3 : w2.cell? ⟨w1.heap.size, 23, none⟩ = some (.int .i64 10000) := by simp [World.cell?, hXL]
      have y4 : w2.cell? ⟨w1.heap.size, 24, none⟩ = some (.int .i64 1) := by simp [World.cell?, hXL]
      clear hXL
      go_wp2_with fail
      have hc : Chg (fun i => w.heap.size ≤ i) w2 (((((w2.setCell ⟨w.heap.size, 0, none⟩ (.bool true)).setCell ⟨w.heap.size, 1, none⟩ (.int .i64 0)).setCell ⟨w.heap.size, 2, none⟩ (.int .i64 0)).setCell ⟨w.heap.size, 3, none⟩ (.int .i64 10000)).setCell ⟨w.heap.size, 4, none⟩ (.int .i64 1)) := chg5 (Chg.refl _ w2) (.inr (Nat.le_refl _)) _ _ _ _ _ _ _ _ _ _
      exact bodyPost_ret (v := pgv ⟨true, 0, 0, 10000, 1⟩) (by simp [results, Try.results90, go_sem, d0, d1, d2, d3, d4, pgv]) rfl ⟨⟨true, 0, 0, 10000, 1⟩, rfl, by unfold PgI I64; simp only; omega, (D.out.own hc).up (by omega)⟩
    · have hXL := XL.out
      have y0 : w2.cell? ⟨w1.heap.size, 25, none⟩ = some (.bool true) := by simp [World.cell?, hXL]
      have y1 : w2.cell? ⟨w1.heap.size, 26, none⟩ = some (.int .i64 0) := by simp [World.cell?, hXL]
      have y2 : w2.cell? ⟨w1.heap.size, 27, none⟩ = some (.int .i64 0) := by simp [World.cell?, hXL]
      have y3 : w2.cell? ⟨w1.heap.size, 28, none⟩ = some (.int .i64 0) := by simp [World.cell?, hXL]
      have y4 : w2.cell? ⟨w1.heap.size, 29, none⟩ = some (.int .i64 1000001) := by simp [World.cell?, hXL]
      clear hXL
      go_wp2_with fail
      have hc : Chg (fun i => w.heap.size ≤ i) w2 (((((w2.setCell ⟨w.heap.size, 0, none⟩ (.bool true)).setCell ⟨w.heap.size, 1, none⟩ (.int .i64 0)).setCell ⟨w.heap.size, 2, none⟩ (.int .i64 0)).setCell ⟨w.heap.size, 3, none⟩ (.int .i64 0)).setCell ⟨w.heap.size, 4, none⟩ (.int .i64 1000001)) := chg5 (Chg.refl _ w2) (.inr (Nat.le_refl _)) _ _ _ _ _ _ _ _ _ _
      exact bodyPost_ret (v := pgv ⟨true, 0, 0, 0, 1000001⟩) (by simp [results, Try.results90, go_sem, d0, d1, d2, d3, d4, pgv]) rfl ⟨⟨true, 0, 0, 0, 1000001⟩, rfl, by unfold PgI I64; simp only; omega, (D.out.own hc).up (by omega)⟩

end Go.Proofs.Ytjmofmdcegefgaa

