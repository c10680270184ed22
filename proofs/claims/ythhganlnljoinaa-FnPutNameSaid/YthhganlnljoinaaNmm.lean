/-
  The walks of the laws' helpers over names: markText, mark, held, same.
-/
import Derived.Test.YthhganlnljoinaaNam
import Derived.Laws.BytesString
import Derived.Laws.Concat
namespace Go.Proofs.Ythhganlnljoinaa
open Go.RowKit

/-- A digit's text. -/
def dg (d : Int) : ByteArray := ByteArray.empty.push (UInt8.ofNat ((48 : Int) + d).toNat)
theorem dg_size (d : Int) : (dg d).size = 1 := by simp [dg, ByteArray.size_push]
def digs (k : Nat) (out : ByteArray) : ByteArray := if _h : k = 0 then out else digs (k / 10) (dg ((k : Int) % 10) ++ out)
termination_by k
decreasing_by omega
theorem digs_zero (out : ByteArray) : digs 0 out = out := by rw [digs]; simp
theorem digs_pos (k : Nat) (out : ByteArray) (h : 0 < k) : digs k out = digs (k / 10) (dg ((k : Int) % 10) ++ out) := by rw [digs]; rw [dif_neg (by omega)]
theorem digs_size (k : Nat) (out : ByteArray) : (digs k out).size ≤ k + out.size := by
  induction k using Nat.strongRecOn generalizing out with
  | ind k ih =>
    by_cases h : k = 0
    · subst h; rw [digs_zero]; omega
    · rw [digs_pos k out (by omega)]
      have := ih (k / 10) (by omega) (dg ((k : Int) % 10) ++ out)
      rw [ByteArray.size_append, dg_size] at this
      omega
def mtx (k : Nat) : ByteArray := (ByteArray.mk #[109]) ++ digs k ByteArray.empty
theorem mtx_size (k : Nat) : (mtx k).size ≤ k + 1 := by
  have := digs_size k ByteArray.empty
  have e : (ByteArray.mk #[109]).size = 1 := rfl
  have e0 : ByteArray.empty.size = 0 := rfl
  unfold mtx
  rw [ByteArray.size_append, e]
  omega

theorem conv_one (w : World) (d : Int) : (convert 29 9 (.slice (some ⟨w.heap.size, 0, none⟩) 1 1)).run Try.prog (w.alloc (.cells #[.int .u8 (48 + d)] 5)) = .ok (.string (dg d)) (w.alloc (.cells #[.int .u8 (48 + d)] 5)) := by
  rw [run_convert_bytes_string _ _ _ 5 _ _ _ Try.underlying29 Try.underlying5 Try.underlying9]
  exact run_bytesToString _ _ 1 1 [48 + d] (run_loadCells_list _ _ [.int .u8 (48 + d)] (cell_one_new _ _ _))

set_option maxHeartbeats 1000000 in
theorem markText_any (k : Nat) (w : World) (h0 : 0 < k) (hk : k ≤ 4503599627370496) :
    Calls Try.prog 42 #[.int .i64 k] w fun e w' => e = .returned (.string (mtx k)) ∧ Below w.heap.size w w' := by
  generalize hR : mtx k = R
  have HR : Hid (R = ByteArray.mk #[109] ++ digs k ByteArray.empty) := Lib.hid hR.symm
  clear hR
  go_enter Try.func42, Try.ntmps42
  go_wp2_with fail
  go_loopw [0, 3] (fun n s wr => ∃ (j : Nat) (out : ByteArray), n = .int .i64 j ∧ s = .string out ∧ j + out.size ≤ k ∧ Below w.heap.size w wr ∧ Hid (R = ByteArray.mk #[109] ++ digs j out)) (fun n _ _ => (intOf n).toNat)
  case atStart => exact ⟨k, ByteArray.empty, rfl, rfl, Nat.le_refl _, Below.refl _ _, HR⟩
  case round =>
    obtain ⟨j, out, rfl, rfl, hj, hbr, H⟩ := hrel
    clear HR
    have HB := Lib.hid hbr
    have hz := hbr.size
    clear hbr
    by_cases hp : 0 < j
    · have H2 : Hid (R = ByteArray.mk #[109] ++ digs (j / 10) (dg ((j : Int) % 10) ++ out)) := Lib.hid (by rw [H.out, digs_pos j out hp])
      have hconv := conv_one wr ((j : Int) % 10)
      have hadd : ∀ W : World, (Op.stringOp .add (dg ((j : Int) % 10)) out).run Try.prog W = .ok (.string (dg ((j : Int) % 10) ++ out)) W := fun W => run_string_add_sum W _ _ (by rw [dg_size]; omega)
      have hsz : (dg ((j : Int) % 10) ++ out).size = 1 + out.size := by rw [ByteArray.size_append, dg_size]
      have HS := Lib.hid hsz
      clear H hsz
      go_wp2_with fail
      have HF := Lib.hid (HB.out.alloc hz (.cells #[.int .u8 (48 + (j : Int) % 10)] 5))
      have hjd : (j : Int) / 10 = ((j / 10 : Nat) : Int) := by omega
      go_roundw
      case rel => exact ⟨j / 10, _, by rw [hjd], rfl, by rw [HS.out]; omega, HF.out, H2⟩
      case measure => simp [intOf]; omega
    · obtain rfl : j = 0 := by omega
      have H2 : Hid (R = ByteArray.mk #[109] ++ out) := Lib.hid (by rw [H.out, digs_zero])
      have hadd : ∀ W : World, (Op.stringOp .add (ByteArray.mk #[109]) out).run Try.prog W = .ok (.string (ByteArray.mk #[109] ++ out)) W := fun W => run_string_add_sum W _ _ (by have : (ByteArray.mk #[109]).size = 1 := rfl; omega)
      clear H
      go_wp2_with fail
      go_ret
      exact ⟨by rw [H2.out]; rfl, HB.out⟩

theorem markTextZ (k : Int) (w : World) (h0 : 0 < k) (hk : k ≤ 4503599627370496) :
    Calls Try.prog 42 #[.int .i64 k] w fun e w' => e = .returned (.string (mtx k.toNat)) ∧ Below w.heap.size w w' := by
  obtain ⟨n, rfl⟩ := Int.eq_ofNat_of_zero_le (show 0 ≤ k by omega)
  rw [Int.toNat_natCast]
  exact markText_any n w (by omega) (by omega)

/-- Every field a text or a number of its own, from k on. -/
def upM (k : Int) (n : Nat) : List (ByteArray × Int) := (List.range n).map fun i : Nat => (mtx (k + 2 * (i : Int)).toNat, k + 2 * (i : Int) + 1)
theorem upM_len (k : Int) (n : Nat) : (upM k n).length = n := by simp [upM]
theorem upM_at (k : Int) (n i : Nat) (h : i < (upM k n).length) : (upM k n)[i] = (mtx (k + 2 * (i : Int)).toNat, k + 2 * (i : Int) + 1) := by simp [upM]

def MarkNPost (v : Value) (lo : Nat) (n : Nat) (k : Int) (w : World) (e : Ending) (w' : World) : Prop :=
  e = .returned (.int .i64 (k + 2 * n)) ∧ w'.ownsRow lo 33 2 v n (nc (upM k n)) ∧ Chg (fun b => v.ownBlock = some b) w w'

set_option maxHeartbeats 1000000 in
theorem markNameS_any (v : Value) (cs : List Value) (lo n : Nat) (k : Int) (w : World) (h : w.ownsRow lo 33 2 v n cs) (hx : n ≤ 1048576) (hk0 : 1 ≤ k) (hk1 : k ≤ 4503599625273344) :
    Calls Try.prog 23 #[v, .int .i64 k] w (MarkNPost v lo n k w) := by
  rcases h.2 with ⟨rfl, rfl⟩ | ⟨g, cap, cur, rfl, -⟩
  · go_enter Try.func23, Try.ntmps23
    go_wp2
    refine wp_loop_rounds 1 ?_
    rw [rounds_succ]
    go_wp2
    go_ret
    exact ⟨by simp, World.ownsRow_nil _ _ _ _, Chg.refl _ _⟩
  · go_enter Try.func23, Try.ntmps23
    go_wp2
    go_loopw [1, 5] (fun q i wr => ∃ (j : Nat) (cs : List Value), j ≤ n ∧ i = .int .i64 j ∧ q = .int .i64 (k + 2 * j) ∧ wr.ownsRow lo 33 2 (.slice (some ⟨g, 0, none⟩) n cap) n cs ∧ Chg (fun b => (Value.slice (some ⟨g, 0, none⟩) n cap).ownBlock = some b) w wr ∧ Upto (j * 2) cs (nc (upM k n)))
      (fun _ i _ => n - (intOf i).toNat)
    case atStart => exact ⟨0, cs, Nat.zero_le _, rfl, by simp, h, Chg.refl _ _, Upto.zero _ _⟩
    case round =>
      clear h
      obtain ⟨j, cs, hj, rfl, rfl, hown, hbr, hup⟩ := hrel
      have HO := Lib.hid (And.intro hown (And.intro hbr hup))
      clear hown hbr hup
      by_cases hlt : j < n
      · go_wp2_with fail
        refine (markTextZ _ _ (by omega) (by omega)).mono ?_
        rintro e w2 ⟨rfl, b2⟩
        have hown := own_chg HO.out.1 (below_chg b2 fun _ => False) (fun _ _ _ h => h)
        have hl := hown.1
        have hst := (hown.stored (j * 2) (.string (mtx (k + 2 * (j : Int)).toNat))).1.stored (j * 2 + 1) (.int .i64 (k + 2 * j + 1))
        have hat := nc_at (upM k n) j (by rw [upM_len]; exact hlt)
        rw [upM_at] at hat
        have hu := (HO.out.2.2.set (by omega) (.string (mtx (k + 2 * (j : Int)).toNat)) hat.1).set (by simp; omega) (.int .i64 (k + 2 * j + 1)) hat.2
        have hf := hown.frozenAt (j * 2)
        have hf2 := hown.frozenAt (j * 2 + 1)
        obtain ⟨u, hcu⟩ : ∃ u, w2.cell? ⟨g, j * 2, none⟩ = some u := ⟨cs[j * 2]'(by omega), by rw [hown.cellAt (j * 2) (by omega)]; simp <;> omega⟩
        obtain ⟨u2, hcu2⟩ : ∃ u, w2.cell? ⟨g, j * 2 + 1, none⟩ = some u := ⟨cs[j * 2 + 1]'(by omega), by rw [hown.cellAt (j * 2 + 1) (by omega)]; simp <;> omega⟩
        have hb2 := ((HO.out.2.1.trans (below_chg b2 _)).setCell (p := ⟨g, j * 2, none⟩) (.inr rfl) (.string (mtx (k + 2 * (j : Int)).toNat))).setCell (p := ⟨g, j * 2 + 1, none⟩) (.inr rfl) (.int .i64 (k + 2 * j + 1))
        have HR := Lib.hid (And.intro hst.1 (And.intro hb2 hu))
        clear hst hu hb2 hown hat hl b2
        go_wp2_with fail
        go_roundw
        case rel => exact ⟨j + 1, _, by omega, by go_num, by go_num, HR.out.1, HR.out.2.1, by have := HR.out.2.2; rw [show (j + 1) * 2 = j * 2 + 1 + 1 from by omega]; exact this⟩
        case measure => simp [intOf]; omega
      · obtain rfl : j = n := by omega
        have hcs := HO.out.2.2.all (by have := HO.out.1.1; omega) (by rw [nc_len, upM_len])
        subst hcs
        go_wp2_with fail
        go_ret
        exact ⟨rfl, HO.out.1, HO.out.2.1⟩

set_option maxHeartbeats 1000000 in
theorem heldNameS_any (v : Value) (lo hi n : Nat) (k : Int) (w : World) (h : Reads w lo hi 2 v n (nc (upM k n))) (hx : n ≤ 1048576) (hk0 : 1 ≤ k) (hk1 : k ≤ 4503599625273344) :
    Calls Try.prog 24 #[v, .int .i64 k] w fun e w' => e = .returned (.int .i64 (k + 2 * n)) ∧ Below w.heap.size w w' := by
  obtain ⟨hl, a, cap, b, off, rfl, q1, q2, q3, q4⟩ := h
  have Q4 := Lib.hid q4
  clear q4 hl
  go_enter Try.func24, Try.ntmps24
  go_wp2
  go_loopw [1, 5] (fun q i wr => ∃ j : Nat, j ≤ n ∧ i = .int .i64 j ∧ q = .int .i64 (k + 2 * j) ∧ Below w.heap.size w wr) (fun _ i _ => n - (intOf i).toNat)
  case atStart => exact ⟨0, Nat.zero_le _, rfl, by simp, Below.refl _ _⟩
  case round =>
    obtain ⟨j, hj, rfl, rfl, hbr⟩ := hrel
    have HB := Lib.hid hbr
    clear hbr
    by_cases hlt : j < n
    · have hat := nc_at (upM k n) j (by rw [upM_len]; exact hlt)
      rw [upM_at] at hat
      have hc := cell_later HB.out ((Q4.out (j * 2) (by omega)).trans hat.1)
      have hc2 := (Q4.out (j * 2 + 1) (by omega)).trans hat.2
      rw [← Nat.add_assoc] at hc2
      have hc3 := cell_later HB.out hc2
      obtain ⟨rfl, -, -⟩ := q3 (by omega)
      have HQ := Lib.hid hc2
      clear q3 hat hc2 hc3
      go_wp2
      go_region_held3 (fun w' => w'.cell? ⟨b, off + j * 2, none⟩ = some (.string (mtx (k + 2 * (j : Int)).toNat)))
        (first | exact hc | exact cell_later (w := wr.drew) (by assumption) hc)
        (first | (go_at_call 42; refine (markTextZ _ _ (by omega) (by omega)).mono ?_; rintro e w2 ⟨rfl, b2⟩))
      all_goals
        have b2' : Below wr.drew.heap.size wr.drew w2 := by assumption
        have HF := Lib.hid (bup HB.out.drew (Nat.le_refl _) b2')
        have hc3 := cell_later HF.out HQ.out
        clear b2'
        go_wp2
        go_roundw
        case rel => exact ⟨j + 1, by omega, by go_num, by go_num, HF.out⟩
        case measure => simp [intOf]; omega
    · obtain rfl : j = n := by omega
      go_wp2
      go_ret
      exact ⟨rfl, HB.out⟩

set_option maxHeartbeats 1000000 in
theorem sameNames_any (v v2 : Value) (xs : List (ByteArray × Int)) (lo hi lo2 hi2 : Nat) (w : World) (h : RN w lo hi v xs) (h2 : RN w lo2 hi2 v2 xs) (hx : xs.length ≤ 1048576) :
    Calls Try.prog 26 #[v, v2] w fun e w' => e = .returned (.bool true) ∧ Below w.heap.size w w' := by
  obtain ⟨a, cap, b, off, rfl, q1, q2, q3, q4⟩ := h.open
  obtain ⟨a', cap', b', off', rfl, r1, r2, r3, r4⟩ := h2.open
  have Q4 := Lib.hid q4
  have R4 := Lib.hid r4
  clear h h2 q4 r4
  go_enter Try.func26, Try.ntmps26
  go_wp2
  go_loopw [5] (fun i wr => ∃ (k n : Nat), k ≤ xs.length ∧ i = .int .i64 k ∧ wr = w.drewN n) (fun i _ => xs.length - (intOf i).toNat)
  case atStart => exact ⟨0, 0, Nat.zero_le _, rfl, rfl⟩
  case round =>
    obtain ⟨k, n, hk, rfl, rfl⟩ := hrel
    by_cases hlt : k < xs.length
    · obtain rfl := q3 (by omega)
      obtain rfl := r3 (by omega)
      obtain ⟨c1, c2⟩ := Q4.out k hlt
      obtain ⟨c3, c4⟩ := R4.out k hlt
      clear q3 r3
      go_wp2
      go_quiet (fail)
      go_wp2
      go_roundw
      case rel => exact ⟨k + 1, n + nq, by omega, by go_num, by simp⟩
      case measure => simp [intOf]; omega
    · go_wp2
      go_ret
      exact ⟨rfl, bdN _ _⟩

end Go.Proofs.Ythhganlnljoinaa
