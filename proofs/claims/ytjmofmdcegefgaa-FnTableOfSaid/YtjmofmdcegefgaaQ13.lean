/-
  Texts of this claim, laid together: Hdw.
-/
import Derived.Test.YtjmofmdcegefgaaQ11
import Derived.Test.YtjmofmdcegefgaaQ12
namespace Go.Proofs.Ytjmofmdcegefgaa
open Go.RowKit

/-- The heads as a list. -/
def hdl (h : Hd) (i : Nat) : Int := if i = 0 then h.hot else if i = 1 then h.warm else h.cold
/-- The head i passes. -/
def hdAt (d : List Bk) (h : Hd) (i : Nat) : Prop := (-1 ≤ hdl h i ∧ hdl h i < (d.length : Int)) ∧ ∀ j, j < i → ¬ (0 ≤ hdl h i ∧ hdl h j = hdl h i)
theorem hdOk_iff {d : List Bk} {h : Hd} : hdOk d h = true ↔ dvOk d = true ∧ hdAt d h 0 ∧ hdAt d h 1 ∧ hdAt d h 2 := by
  have e0 : hdl h 0 = h.hot := rfl
  have e1 : hdl h 1 = h.warm := rfl
  have e2 : hdl h 2 = h.cold := rfl
  constructor
  · intro hk
    unfold hdOk at hk
    simp only [Bool.and_eq_true, inB_iff, Bool.not_eq_true', Bool.and_eq_false_iff, decide_eq_false_iff_not, beq_eq_false_iff_ne] at hk
    obtain ⟨⟨⟨⟨⟨⟨h0, a⟩, b⟩, c⟩, x⟩, y⟩, z⟩ := hk
    unfold hdAt
    rw [e0, e1, e2]
    refine ⟨h0, ⟨by omega, fun j hj => by omega⟩, ⟨by omega, fun j hj => ?_⟩, ⟨by omega, fun j hj => ?_⟩⟩
    · obtain rfl : j = 0 := by omega
      rw [e0]; omega
    · have : j = 0 ∨ j = 1 := by omega
      rcases this with rfl | rfl
      · rw [e0]; omega
      · rw [e1]; omega
  · unfold hdAt
    rw [e0, e1, e2]
    rintro ⟨h0, ⟨a, -⟩, ⟨b, b3⟩, ⟨c, c3⟩⟩
    have b30 := b3 0 (by omega)
    have c30 := c3 0 (by omega)
    have c31 := c3 1 (by omega)
    rw [e0] at b30 c30
    rw [e1] at c31
    unfold hdOk
    simp only [Bool.and_eq_true, inB_iff, Bool.not_eq_true', Bool.and_eq_false_iff, decide_eq_false_iff_not, beq_eq_false_iff_ne]
    exact ⟨⟨⟨⟨⟨⟨h0, by omega⟩, by omega⟩, by omega⟩, by omega⟩, by omega⟩, by omega⟩
theorem hdOk_dv {d : List Bk} {h : Hd} (hv : dvOk d = false) : hdOk d h = false := by
  cases hk : hdOk d h with
  | false => rfl
  | true => rw [(hdOk_iff.1 hk).1] at hv; cases hv
theorem hdOk_no {d : List Bk} {h : Hd} {i : Nat} (hi : i < 3) (hn : ¬ hdAt d h i) : hdOk d h = false := by
  cases hk : hdOk d h with
  | false => rfl
  | true =>
    have := hdOk_iff.1 hk
    have hc : i = 0 ∨ i = 1 ∨ i = 2 := by omega
    rcases hc with rfl | rfl | rfl
    · exact absurd this.2.1 hn
    · exact absurd this.2.2.1 hn
    · exact absurd this.2.2.2 hn
theorem hdOk_yes {d : List Bk} {h : Hd} (hv : dvOk d = true) (ha : ∀ i, i < 3 → hdAt d h i) : hdOk d h = true :=
  hdOk_iff.2 ⟨hv, ha 0 (by omega), ha 1 (by omega), ha 2 (by omega)⟩
theorem hdl_i {h : Hd} (hi : HdI h) (i : Nat) : I64 (hdl h i) := by
  unfold hdl
  split
  · exact hi.1
  · split
    · exact hi.2.1
    · exact hi.2.2

/-- A box of heads. -/
def hbox (h : Hd) : Obj := .cells #[.int .i64 h.hot, .int .i64 h.warm, .int .i64 h.cold] 36


set_option maxHeartbeats 1000000 in
theorem isHead_any (h : Hd) (n : Int) (w : World) : Calls Try.prog 50 #[hdv h, .int .i64 n] w fun e w' => e = .returned (.bool (isHd h n)) ∧ Below w.heap.size w w' := by
  obtain ⟨a, b, c⟩ := h
  have HB := Lib.hid (balloc w (.cells #[.int .i64 a, .int .i64 b, .int .i64 c] 36))
  unfold hdv isHd
  simp only
  cases h1 : (n == a)
  · cases h2 : (n == b)
    · go_enter Try.func50, Try.ntmps50
      go_wp2_with fail
      all_goals (go_ret; exact ⟨by simp, HB.out⟩)
    · go_enter Try.func50, Try.ntmps50
      go_wp2_with fail
      all_goals (go_ret; exact ⟨by simp, HB.out⟩)
  · go_enter Try.func50, Try.ntmps50
    go_wp2_with fail
    all_goals (go_ret; exact ⟨by simp, HB.out⟩)

/-- An entry of an array of three, by value. -/
theorem idx3_0 (x0 x1 x2 : Value) (w : World) : Sem.run Try.prog (Instr.index 74 (.agg #[x0, x1, x2]) (.int .i64 0)) w = .ok x0 w := by kernel_rfl
theorem idx3_1 (x0 x1 x2 : Value) (w : World) : Sem.run Try.prog (Instr.index 74 (.agg #[x0, x1, x2]) (.int .i64 1)) w = .ok x1 w := by kernel_rfl
theorem idx3_2 (x0 x1 x2 : Value) (w : World) : Sem.run Try.prog (Instr.index 74 (.agg #[x0, x1, x2]) (.int .i64 2)) w = .ok x2 w := by kernel_rfl

set_option maxHeartbeats 2000000 in
set_option maxRecDepth 4000 in
theorem implHdv_any (v : Value) (d : List Bk) (h : Hd) (lo hi : Nat) (w : World) (hd : RD w lo hi v d) (hh : HdI h) :
    Calls Try.prog 18 #[v, hdv h] w fun e w' => e = .returned (.bool (hdOk d h)) ∧ Below w.heap.size w w' := by
  obtain ⟨a, cap, b, off, rfl, q1, q2, q3, -⟩ := hd.open
  have HB0 := Lib.hid (balloc w (hbox h))
  have X0 := Lib.hid (heap_alloc_new w (hbox h))
  have HD0 := Lib.hid hd
  have HH := Lib.hid hh
  unfold hdv
  unfold hbox at HB0 X0
  clear hd q3
  cases hv : dvOk d
  · have HU := Lib.hid (hdOk_dv (h := h) hv)
    have c1 := fun wx h => implDvv_any (.slice a d.length cap) d lo hi wx h
    rw [hv] at c1
    have C1 := Lib.hid c1
    clear c1 hv
    go_enter Try.func18, Try.ntmps18
    go_wp2_with fail
    refine (C1.out _ (HD0.out.below HB0.out)).mono ?_
    rintro e w1 ⟨rfl, b1⟩
    have HF := Lib.hid (bup2 HB0.out b1)
    clear b1
    go_wp2_with fail
    all_goals (go_ret; exact ⟨by rw [HU.out]; rfl, HF.out⟩)
  · have HV := Lib.hid hv
    have hl12 := (dv_len hv).2
    have c1 := fun wx h => implDvv_any (.slice a d.length cap) d lo hi wx h
    rw [hv] at c1
    have C1 := Lib.hid c1
    clear c1 hv
    go_enter Try.func18, Try.ntmps18
    go_wp2_with fail
    refine (C1.out _ (HD0.out.below HB0.out)).mono ?_
    rintro e w1 ⟨rfl, b1⟩
    have HB1 := Lib.hid (And.intro (bup2 HB0.out b1) (box_keep X0.out b1))
    obtain ⟨⟨d0, d1, d2⟩, -⟩ := three_at HB1.out.2
    clear b1
    have hb3 := balloc w1 (.cells #[.int .i64 h.hot, .int .i64 h.warm, .int .i64 h.cold] 74)
    have X3 := heap_alloc_new w1 (.cells #[.int .i64 h.hot, .int .i64 h.warm, .int .i64 h.cold] 74)
    obtain ⟨⟨k0, k1, k2⟩, -⟩ := three_at X3
    have HC : Hid (∀ j, j < 3 → (w1.alloc (.cells #[.int .i64 h.hot, .int .i64 h.warm, .int .i64 h.cold] 74)).cell? ⟨w1.heap.size, j, none⟩ = some (.int .i64 (hdl h j))) := Lib.hid fun j hj => by
      have : j = 0 ∨ j = 1 ∨ j = 2 := by omega
      rcases this with rfl | rfl | rfl
      · exact k0
      · exact k1
      · exact k2
    have HB3 := Lib.hid (bup2 HB1.out.1 hb3)
    clear hb3 X3 k0 k1 k2
    go_wp2_with fail
    generalize hw3 : w1.alloc (.cells #[.int .i64 h.hot, .int .i64 h.warm, .int .i64 h.cold] 74) = w3 at *
    clear hw3
    have H2 := Lib.hid (hdl_i HH.out)
    go_loopw [6, 7, 9, 21] (fun _ _ _ i wr => ∃ k : Nat, k ≤ 3 ∧ i = .int .i64 k ∧ (∀ j, j < k → hdAt d h j) ∧ wr = w3) (fun _ _ _ i _ => 3 - (intOf i).toNat)
    case atStart => exact ⟨0, by omega, rfl, fun j hj => by omega, rfl⟩
    case round =>
      obtain ⟨k, hk, rfl, hat, rfl⟩ := hrel
      have HA := Lib.hid hat
      clear hat
      have hkk : k = 0 ∨ k = 1 ∨ k = 2 ∨ k = 3 := by omega
      rcases hkk with rfl | rfl | rfl | rfl
      · obtain ⟨x, hx'⟩ : ∃ x, x = h.hot := ⟨_, rfl⟩
        rw [← hx']
        have hxi := H2.out 0
        have hx : x = hdl h 0 := hx'
        rw [← hx] at hxi
        have HX := Lib.hid hx
        clear hx hx'
        by_cases h1 : x < -1
        · have HU := Lib.hid (hdOk_no (d := d) (h := h) (i := 0) (by omega) (fun hn => by have := hn.1.1; rw [← HX.out] at this; omega))
          go_wp2_with fail
          rw [idx3_0]
          simp only [Result.andThen_ok]
          rw [Oper.upon_value]
          go_wp2_with fail
          go_ret
          exact ⟨by rw [HU.out]; rfl, HB3.out⟩
        · have h1 : decide (x < -1) = false := by simpa using h1
          by_cases h2 : (d.length : Int) ≤ x
          · have HU := Lib.hid (hdOk_no (d := d) (h := h) (i := 0) (by omega) (fun hn => by have := hn.1.2; rw [← HX.out] at this; omega))
            go_wp2_with fail
            rw [idx3_0]
            simp only [Result.andThen_ok]
            rw [Oper.upon_value]
            go_wp2_with fail
            go_ret
            exact ⟨by rw [HU.out]; rfl, HB3.out⟩
          · have hdummy := hxi
            go_wp2_with fail
            rw [idx3_0]
            simp only [Result.andThen_ok]
            rw [Oper.upon_value]
            go_wp2_with fail
            go_loopw [9, 36] (fun _ i wq => ∃ j : Nat, j ≤ 0 ∧ i = .int .i64 j ∧ (∀ j', j' < j → ¬ (0 ≤ x ∧ hdl h j' = x)) ∧ wq = wr) (fun _ i _ => 0 - (intOf i).toNat)
            case atStart => exact ⟨0, by omega, rfl, fun j hj => by omega, rfl⟩
            case round =>
              obtain ⟨j, hj, rfl, hnj, rfl⟩ := hrel
              have HN := Lib.hid hnj
              clear hnj
              by_cases hlt : j < 0
              · have hji : (j : Int) < 0 := by omega
                have hc := HC.out j (by omega)
                have hyi := H2.out j
                obtain ⟨y, hy⟩ : ∃ y, y = hdl h j := ⟨_, rfl⟩
                rw [← hy] at hc hyi
                by_cases hx0 : 0 ≤ x
                · by_cases hxy : x = y
                  · have HU := Lib.hid (hdOk_no (d := d) (h := h) (i := 0) (by omega) (fun hn => hn.2 j hlt ⟨by rw [← HX.out]; omega, by rw [← HX.out]; omega⟩))
                    have hb : (x == y) = true := by simpa using hxy
                    clear hxy hy
                    go_wp2_with fail
                    go_ret
                    exact ⟨by rw [HU.out]; rfl, HB3.out⟩
                  · have hb : (x == y) = false := by simpa using hxy
                    have hnew : ∀ j', j' < j + 1 → ¬ (0 ≤ x ∧ hdl h j' = x) := fun j' hj' hq => by
                      by_cases e : j' = j
                      · subst e; omega
                      · exact HN.out j' (by omega) hq
                    have HN2 := Lib.hid hnew
                    clear hnew hxy hy
                    go_wp2_with fail
                    go_roundw
                    case rel => exact ⟨j + 1, by omega, by go_num, HN2.out, trivial⟩
                    case measure => simp [intOf]; omega
                · have hnew : ∀ j', j' < j + 1 → ¬ (0 ≤ x ∧ hdl h j' = x) := fun j' hj' hq => hx0 hq.1
                  have HN2 := Lib.hid hnew
                  have hx1 : ¬ 0 ≤ x := hx0
                  clear hnew hy
                  go_wp2_with fail
                  go_roundw
                  case rel => exact ⟨j + 1, by omega, by go_num, HN2.out, trivial⟩
                  case measure => simp [intOf]; omega
              · have hji : ¬ (j : Int) < 0 := by omega
                obtain rfl : j = 0 := by omega
                have hnew : ∀ i, i < 0 + 1 → hdAt d h i := fun i hi => by
                  by_cases e : i = 0
                  · subst e
                    exact ⟨by rw [← HX.out]; omega, fun j' hj' hq => HN.out j' hj' ⟨by rw [HX.out]; exact hq.1, by rw [HX.out]; exact hq.2⟩⟩
                  · exact HA.out i (by omega)
                have HA2 := Lib.hid hnew
                clear hnew
                go_wp2_with fail
                go_roundw
                case rel => exact ⟨0 + 1, by omega, by go_num, HA2.out, trivial⟩
                case measure => simp [intOf]
      · obtain ⟨x, hx'⟩ : ∃ x, x = h.warm := ⟨_, rfl⟩
        rw [← hx']
        have hxi := H2.out 1
        have hx : x = hdl h 1 := hx'
        rw [← hx] at hxi
        have HX := Lib.hid hx
        clear hx hx'
        by_cases h1 : x < -1
        · have HU := Lib.hid (hdOk_no (d := d) (h := h) (i := 1) (by omega) (fun hn => by have := hn.1.1; rw [← HX.out] at this; omega))
          go_wp2_with fail
          rw [idx3_1]
          simp only [Result.andThen_ok]
          rw [Oper.upon_value]
          go_wp2_with fail
          go_ret
          exact ⟨by rw [HU.out]; rfl, HB3.out⟩
        · have h1 : decide (x < -1) = false := by simpa using h1
          by_cases h2 : (d.length : Int) ≤ x
          · have HU := Lib.hid (hdOk_no (d := d) (h := h) (i := 1) (by omega) (fun hn => by have := hn.1.2; rw [← HX.out] at this; omega))
            go_wp2_with fail
            rw [idx3_1]
            simp only [Result.andThen_ok]
            rw [Oper.upon_value]
            go_wp2_with fail
            go_ret
            exact ⟨by rw [HU.out]; rfl, HB3.out⟩
          · have hdummy := hxi
            go_wp2_with fail
            rw [idx3_1]
            simp only [Result.andThen_ok]
            rw [Oper.upon_value]
            go_wp2_with fail
            go_loopw [9, 36] (fun _ i wq => ∃ j : Nat, j ≤ 1 ∧ i = .int .i64 j ∧ (∀ j', j' < j → ¬ (0 ≤ x ∧ hdl h j' = x)) ∧ wq = wr) (fun _ i _ => 1 - (intOf i).toNat)
            case atStart => exact ⟨0, by omega, rfl, fun j hj => by omega, rfl⟩
            case round =>
              obtain ⟨j, hj, rfl, hnj, rfl⟩ := hrel
              have HN := Lib.hid hnj
              clear hnj
              by_cases hlt : j < 1
              · have hji : (j : Int) < 1 := by omega
                have hc := HC.out j (by omega)
                have hyi := H2.out j
                obtain ⟨y, hy⟩ : ∃ y, y = hdl h j := ⟨_, rfl⟩
                rw [← hy] at hc hyi
                by_cases hx0 : 0 ≤ x
                · by_cases hxy : x = y
                  · have HU := Lib.hid (hdOk_no (d := d) (h := h) (i := 1) (by omega) (fun hn => hn.2 j hlt ⟨by rw [← HX.out]; omega, by rw [← HX.out]; omega⟩))
                    have hb : (x == y) = true := by simpa using hxy
                    clear hxy hy
                    go_wp2_with fail
                    go_ret
                    exact ⟨by rw [HU.out]; rfl, HB3.out⟩
                  · have hb : (x == y) = false := by simpa using hxy
                    have hnew : ∀ j', j' < j + 1 → ¬ (0 ≤ x ∧ hdl h j' = x) := fun j' hj' hq => by
                      by_cases e : j' = j
                      · subst e; omega
                      · exact HN.out j' (by omega) hq
                    have HN2 := Lib.hid hnew
                    clear hnew hxy hy
                    go_wp2_with fail
                    go_roundw
                    case rel => exact ⟨j + 1, by omega, by go_num, HN2.out, trivial⟩
                    case measure => simp [intOf]; omega
                · have hnew : ∀ j', j' < j + 1 → ¬ (0 ≤ x ∧ hdl h j' = x) := fun j' hj' hq => hx0 hq.1
                  have HN2 := Lib.hid hnew
                  have hx1 : ¬ 0 ≤ x := hx0
                  clear hnew hy
                  go_wp2_with fail
                  go_roundw
                  case rel => exact ⟨j + 1, by omega, by go_num, HN2.out, trivial⟩
                  case measure => simp [intOf]; omega
              · have hji : ¬ (j : Int) < 1 := by omega
                obtain rfl : j = 1 := by omega
                have hnew : ∀ i, i < 1 + 1 → hdAt d h i := fun i hi => by
                  by_cases e : i = 1
                  · subst e
                    exact ⟨by rw [← HX.out]; omega, fun j' hj' hq => HN.out j' hj' ⟨by rw [HX.out]; exact hq.1, by rw [HX.out]; exact hq.2⟩⟩
                  · exact HA.out i (by omega)
                have HA2 := Lib.hid hnew
                clear hnew
                go_wp2_with fail
                go_roundw
                case rel => exact ⟨1 + 1, by omega, by go_num, HA2.out, trivial⟩
                case measure => simp [intOf]
      · obtain ⟨x, hx'⟩ : ∃ x, x = h.cold := ⟨_, rfl⟩
        rw [← hx']
        have hxi := H2.out 2
        have hx : x = hdl h 2 := hx'
        rw [← hx] at hxi
        have HX := Lib.hid hx
        clear hx hx'
        by_cases h1 : x < -1
        · have HU := Lib.hid (hdOk_no (d := d) (h := h) (i := 2) (by omega) (fun hn => by have := hn.1.1; rw [← HX.out] at this; omega))
          go_wp2_with fail
          rw [idx3_2]
          simp only [Result.andThen_ok]
          rw [Oper.upon_value]
          go_wp2_with fail
          go_ret
          exact ⟨by rw [HU.out]; rfl, HB3.out⟩
        · have h1 : decide (x < -1) = false := by simpa using h1
          by_cases h2 : (d.length : Int) ≤ x
          · have HU := Lib.hid (hdOk_no (d := d) (h := h) (i := 2) (by omega) (fun hn => by have := hn.1.2; rw [← HX.out] at this; omega))
            go_wp2_with fail
            rw [idx3_2]
            simp only [Result.andThen_ok]
            rw [Oper.upon_value]
            go_wp2_with fail
            go_ret
            exact ⟨by rw [HU.out]; rfl, HB3.out⟩
          · have hdummy := hxi
            go_wp2_with fail
            rw [idx3_2]
            simp only [Result.andThen_ok]
            rw [Oper.upon_value]
            go_wp2_with fail
            go_loopw [9, 36] (fun _ i wq => ∃ j : Nat, j ≤ 2 ∧ i = .int .i64 j ∧ (∀ j', j' < j → ¬ (0 ≤ x ∧ hdl h j' = x)) ∧ wq = wr) (fun _ i _ => 2 - (intOf i).toNat)
            case atStart => exact ⟨0, by omega, rfl, fun j hj => by omega, rfl⟩
            case round =>
              obtain ⟨j, hj, rfl, hnj, rfl⟩ := hrel
              have HN := Lib.hid hnj
              clear hnj
              by_cases hlt : j < 2
              · have hji : (j : Int) < 2 := by omega
                have hc := HC.out j (by omega)
                have hyi := H2.out j
                obtain ⟨y, hy⟩ : ∃ y, y = hdl h j := ⟨_, rfl⟩
                rw [← hy] at hc hyi
                by_cases hx0 : 0 ≤ x
                · by_cases hxy : x = y
                  · have HU := Lib.hid (hdOk_no (d := d) (h := h) (i := 2) (by omega) (fun hn => hn.2 j hlt ⟨by rw [← HX.out]; omega, by rw [← HX.out]; omega⟩))
                    have hb : (x == y) = true := by simpa using hxy
                    clear hxy hy
                    go_wp2_with fail
                    go_ret
                    exact ⟨by rw [HU.out]; rfl, HB3.out⟩
                  · have hb : (x == y) = false := by simpa using hxy
                    have hnew : ∀ j', j' < j + 1 → ¬ (0 ≤ x ∧ hdl h j' = x) := fun j' hj' hq => by
                      by_cases e : j' = j
                      · subst e; omega
                      · exact HN.out j' (by omega) hq
                    have HN2 := Lib.hid hnew
                    clear hnew hxy hy
                    go_wp2_with fail
                    go_roundw
                    case rel => exact ⟨j + 1, by omega, by go_num, HN2.out, trivial⟩
                    case measure => simp [intOf]; omega
                · have hnew : ∀ j', j' < j + 1 → ¬ (0 ≤ x ∧ hdl h j' = x) := fun j' hj' hq => hx0 hq.1
                  have HN2 := Lib.hid hnew
                  have hx1 : ¬ 0 ≤ x := hx0
                  clear hnew hy
                  go_wp2_with fail
                  go_roundw
                  case rel => exact ⟨j + 1, by omega, by go_num, HN2.out, trivial⟩
                  case measure => simp [intOf]; omega
              · have hji : ¬ (j : Int) < 2 := by omega
                obtain rfl : j = 2 := by omega
                have hnew : ∀ i, i < 2 + 1 → hdAt d h i := fun i hi => by
                  by_cases e : i = 2
                  · subst e
                    exact ⟨by rw [← HX.out]; omega, fun j' hj' hq => HN.out j' hj' ⟨by rw [HX.out]; exact hq.1, by rw [HX.out]; exact hq.2⟩⟩
                  · exact HA.out i (by omega)
                have HA2 := Lib.hid hnew
                clear hnew
                go_wp2_with fail
                go_roundw
                case rel => exact ⟨2 + 1, by omega, by go_num, HA2.out, trivial⟩
                case measure => simp [intOf]
      · have HU := Lib.hid (hdOk_yes HV.out HA.out)
        go_wp2_with fail
        go_ret
        exact ⟨by rw [HU.out]; rfl, HB3.out⟩

set_option maxHeartbeats 2000000 in
set_option maxRecDepth 4000 in
theorem specHdv_any (v : Value) (d : List Bk) (h : Hd) (lo hi : Nat) (w : World) (hd : RD w lo hi v d) (hh : HdI h) (hl : d.length ≤ 1048576) :
    Calls Try.prog 51 #[v, hdv h] w fun e w' => e = .returned (.bool (hdOk d h)) ∧ Below w.heap.size w w' := by
  obtain ⟨a, cap, b, off, rfl, q1, q2, q3, -⟩ := hd.open
  have hb0 := two_below w (hbox h) (.cells #[.int .i64 h.hot, .int .i64 h.warm, .int .i64 h.cold] 3)
  have HB0 := Lib.hid hb0
  have X3 := heap_alloc_new (w.alloc (hbox h)) (.cells #[.int .i64 h.hot, .int .i64 h.warm, .int .i64 h.cold] 3)
  have e1 : (w.alloc (hbox h)).heap.size = w.heap.size + 1 := by simp
  rw [e1] at X3
  obtain ⟨⟨k0, k1, k2⟩, -⟩ := three_at X3
  obtain ⟨w3, hw3⟩ : ∃ w3, w3 = (w.alloc (hbox h)).alloc (.cells #[.int .i64 h.hot, .int .i64 h.warm, .int .i64 h.cold] 3) := ⟨_, rfl⟩
  rw [← hw3] at k0 k1 k2 HB0
  have HC : Hid (∀ j, j < 3 → w3.cell? ⟨w.heap.size + 1, j, none⟩ = some (.int .i64 (hdl h j))) := Lib.hid fun j hj => by
    have : j = 0 ∨ j = 1 ∨ j = 2 := by omega
    rcases this with rfl | rfl | rfl
    · exact k0
    · exact k1
    · exact k2
  have HD0 := Lib.hid hd
  have HW := Lib.hid hw3
  have H2 := Lib.hid (hdl_i hh)
  have C1 := Lib.hid (fun wx hx => specDvv_any (.slice a d.length cap) d lo hi wx hx)
  unfold hdv
  unfold hbox at HW
  clear hd q3 hb0 e1 X3 k0 k1 k2 hw3
  go_enter Try.func51, Try.ntmps51
  go_wp2_with fail
  rw [← HW.out]
  go_loopw [6, 7] (fun i _ wr => ∃ k : Nat, k ≤ 3 ∧ i = .int .i64 k ∧ (∀ j, j < k → hdAt d h j) ∧ Below w3.heap.size w3 wr) (fun i _ _ => 3 - (intOf i).toNat)
  case atStart => exact ⟨0, by omega, rfl, fun j hj => by omega, Below.refl _ _⟩
  case round =>
    obtain ⟨k, hk, rfl, hat, hbw⟩ := hrel
    have HA := Lib.hid hat
    have BW := Lib.hid hbw
    clear hat hbw HW
    by_cases hk3 : k < 3
    · have hki : (k : Int) < 3 := by omega
      have hc := cell_later BW.out (HC.out k hk3)
      have hxi := H2.out k
      obtain ⟨x, hx⟩ : ∃ x, x = hdl h k := ⟨_, rfl⟩
      rw [← hx] at hc hxi
      have HX := Lib.hid hx
      clear hx
      cases hin : inB x (-1) ((d.length : Int) - 1)
      · have HU := Lib.hid (hdOk_no (d := d) (h := h) (i := k) hk3 (fun hn => by
          have := hn.1
          rw [← HX.out] at this
          have h1 : inB x (-1) ((d.length : Int) - 1) = true := inB_iff.2 ⟨by omega, by omega⟩
          rw [h1] at hin; cases hin))
        have HIN := Lib.hid hin
        clear hin
        go_wp2_with fail
        refine (l1In_any _ _ _ _).mono ?_
        rintro e wq ⟨rfl, rfl⟩
        rw [HIN.out]
        go_wp2_with fail
        go_ret
        exact ⟨by rw [HU.out]; rfl, bup2 HB0.out BW.out⟩
      · have hb := inB_iff.1 hin
        have HIN := Lib.hid hin
        clear hin
        go_wp2_with fail
        refine (l1In_any _ _ _ _).mono ?_
        rintro e wq ⟨rfl, rfl⟩
        rw [HIN.out]
        go_wp2_with fail
        go_loopw [7] (fun i wq => ∃ j : Nat, j ≤ k ∧ i = .int .i64 j ∧ (∀ j', j' < j → ¬ (0 ≤ x ∧ hdl h j' = x)) ∧ Below w3.heap.size w3 wq) (fun i _ => k - (intOf i).toNat)
        case atStart => exact ⟨0, by omega, rfl, fun j hj => by omega, BW.out⟩
        case round =>
          obtain ⟨j, hj, rfl, hnj, hbq⟩ := hrel
          have HN := Lib.hid hnj
          have BQ := Lib.hid hbq
          clear hnj hbq hc
          by_cases hlt : j < k
          · have hji : (j : Int) < (k : Int) := by omega
            have hc2 := cell_later BQ.out (HC.out j (by omega))
            have hc := cell_later BQ.out (HC.out k hk3)
            rw [← HX.out] at hc
            have hyi := H2.out j
            obtain ⟨y, hy⟩ : ∃ y, y = hdl h j := ⟨_, rfl⟩
            rw [← hy] at hc2 hyi
            have hj3 : (j : Int) < 3 := by omega
            by_cases hxy : y = x
            · have hb2 : (y == x) = true := by simpa using hxy
              by_cases hx0 : 0 ≤ x
              · have HU := Lib.hid (hdOk_no (d := d) (h := h) (i := k) hk3 (fun hn => hn.2 j hlt ⟨by rw [← HX.out]; omega, by rw [← HX.out]; omega⟩))
                clear hxy hy
                go_wp2
                go_quiet (fail)
                go_wp2
                go_ret
                exact ⟨by rw [HU.out]; rfl, bup2 HB0.out (bup2 BQ.out (bdN _ _))⟩
              · have hnew : ∀ j', j' < j + 1 → ¬ (0 ≤ x ∧ hdl h j' = x) := fun j' hj' hq => hx0 hq.1
                have HN2 := Lib.hid hnew
                have hx1 : decide (0 ≤ x) = false := by simpa using hx0
                clear hnew hxy hy hx0
                go_wp2
                go_quiet (fail)
                go_wp2
                go_roundw
                case rel => exact ⟨j + 1, by omega, by go_num, HN2.out, (bup2 BQ.out (bdN _ _))⟩
                case measure => simp [intOf]; omega
            · have hb2 : (y == x) = false := by simpa using hxy
              have hnew : ∀ j', j' < j + 1 → ¬ (0 ≤ x ∧ hdl h j' = x) := fun j' hj' hq => by
                by_cases e : j' = j
                · subst e; omega
                · exact HN.out j' (by omega) hq
              have HN2 := Lib.hid hnew
              clear hnew hxy hy
              go_wp2
              go_quiet (fail)
              go_wp2
              go_roundw
              case rel => exact ⟨j + 1, by omega, by go_num, HN2.out, (bup2 BQ.out (bdN _ _))⟩
              case measure => simp [intOf]; omega
          · have hji : ¬ (j : Int) < (k : Int) := by omega
            obtain rfl : j = k := by omega
            have hnew : ∀ i, i < j + 1 → hdAt d h i := fun i hi => by
              by_cases e : i = j
              · subst e
                exact ⟨by rw [← HX.out]; omega, fun j' hj' hq => HN.out j' hj' ⟨by rw [HX.out]; exact hq.1, by rw [HX.out]; exact hq.2⟩⟩
              · exact HA.out i (by omega)
            have HA2 := Lib.hid hnew
            clear hnew
            go_wp2_with fail
            go_roundw
            case rel => exact ⟨j + 1, by omega, by go_num, HA2.out, BQ.out⟩
            case measure => simp [intOf]; omega
    · have hki : ¬ (k : Int) < 3 := by omega
      obtain rfl : k = 3 := by omega
      have hu : hdOk d h = dvOk d := by
        cases hv : dvOk d
        · exact hdOk_dv hv
        · exact hdOk_yes hv HA.out
      have HU := Lib.hid hu
      clear hu
      go_wp2_with fail
      refine (C1.out _ (HD0.out.below (bup2 HB0.out BW.out))).mono ?_
      rintro e w4 ⟨rfl, b4⟩
      have HF := Lib.hid (bup2 (bup2 HB0.out BW.out) b4)
      clear b4
      go_wp2_with fail
      go_ret
      exact ⟨by rw [HU.out]; rfl, HF.out⟩

end Go.Proofs.Ytjmofmdcegefgaa

