/-
  Words for slices of extents, and the walks of the laws' helpers over them.
-/
import Derived.Test.YtepgakaccgnebaaInts
import Derived.Deep.RegionHeld3
namespace Go.Proofs.Ytepgakaccgnebaa
open Go.RowKit

theorem Try.infoX : (Try.prog.info? 32).map (fun i => (i.zero, i.size, i.bytes)) = some (some (.agg #[.int .i64 0, .int .i64 0]), 2, 16) := by kernel_rfl

/-- The cells of extents. -/
def xc (xs : List (Int × Int)) : List Value := xs.flatMap fun e => [.int .i64 e.1, .int .i64 e.2]
theorem xc_len (xs : List (Int × Int)) : (xc xs).length = xs.length * 2 := by
  induction xs with
  | nil => rfl
  | cons a xs ih => simp only [xc, List.flatMap_cons, List.length_append, List.length_cons, List.length_nil] at ih ⊢; omega
theorem xc_at (xs : List (Int × Int)) (k : Nat) (hk : k < xs.length) : (xc xs)[k * 2]? = some (.int .i64 xs[k].1) ∧ (xc xs)[k * 2 + 1]? = some (.int .i64 xs[k].2) := by
  induction xs generalizing k with
  | nil => simp at hk
  | cons a xs ih =>
    cases k with
    | zero => exact ⟨rfl, rfl⟩
    | succ k =>
      have := ih k (by simpa using hk)
      have e : (k + 1) * 2 = k * 2 + 1 + 1 := by omega
      simp only [xc, List.flatMap_cons, List.cons_append, List.nil_append, e, List.getElem?_cons_succ, List.getElem_cons_succ] at this ⊢
      exact this

def X64s (xs : List (Int × Int)) : Prop := ∀ e ∈ xs, I64 e.1 ∧ I64 e.2
/-- The extents of a slice. -/
def RX (w : World) (lo hi : Nat) (v : Value) (xs : List (Int × Int)) : Prop := Reads w lo hi 2 v xs.length (xc xs) ∧ X64s xs
theorem RX.below {w w' : World} {lo hi : Nat} {v : Value} {xs : List (Int × Int)} (h : RX w lo hi v xs) (hk : Below w.heap.size w w') : RX w' lo hi v xs := ⟨h.1.below hk, h.2⟩
theorem RX.chg {S : Nat → Prop} {w w' : World} {lo hi : Nat} {v : Value} {xs : List (Int × Int)} (h : RX w lo hi v xs) (hk : Chg S w w') (hs : ∀ b, lo ≤ b → b < hi → ¬ S b) : RX w' lo hi v xs := ⟨h.1.chg hk hs, h.2⟩
theorem RX.open {w : World} {lo hi : Nat} {v : Value} {xs : List (Int × Int)} (h : RX w lo hi v xs) :
    ∃ (a : Option Addr) (cap b off : Nat), v = .slice a xs.length cap ∧ xs.length ≤ cap ∧ cap ≤ 9223372036854775807 ∧
      (0 < xs.length → a = some ⟨b, off, none⟩) ∧ ∀ k (hk : k < xs.length), w.cell? ⟨b, off + k * 2, none⟩ = some (.int .i64 xs[k].1) ∧ w.cell? ⟨b, off + k * 2 + 1, none⟩ = some (.int .i64 xs[k].2) := by
  obtain ⟨⟨hl, a, cap, b, off, rfl, h1, h2, h3, h4⟩, hw⟩ := h
  refine ⟨a, cap, b, off, rfl, h1, by simpa [maxLen] using h2, fun hn => (h3 hn).1, fun k hk => ⟨?_, ?_⟩⟩
  · rw [h4 (k * 2) (by omega)]; exact (xc_at xs k hk).1
  · rw [Nat.add_assoc, h4 (k * 2 + 1) (by omega)]; exact (xc_at xs k hk).2

/-- The slice v of extents is the call's own. -/
def OX (w : World) (lo : Nat) (v : Value) (xs : List (Int × Int)) : Prop := w.ownsRow lo 32 2 v xs.length (xc xs) ∧ X64s xs
theorem OX.rx {w : World} {lo : Nat} {v : Value} {xs : List (Int × Int)} (h : OX w lo v xs) : RX w lo w.heap.size v xs := ⟨reads_own h.1, h.2⟩
theorem OX.chg {S : Nat → Prop} {w w' : World} {lo : Nat} {v : Value} {xs : List (Int × Int)} (h : OX w lo v xs) (hk : Chg S w w') (hs : ∀ b, lo ≤ b → v.ownBlock = some b → ¬ S b) : OX w' lo v xs :=
  ⟨own_chg h.1 hk hs, h.2⟩
theorem OX.below {w w' : World} {lo : Nat} {v : Value} {xs : List (Int × Int)} (h : OX w lo v xs) (hk : Below w.heap.size w w') : OX w' lo v xs := h.chg (below_chg hk fun _ => False) fun _ _ _ h => h
theorem OX.lt {w : World} {lo : Nat} {v : Value} {xs : List (Int × Int)} (h : OX w lo v xs) : ∀ k, v.ownBlock = some k → lo ≤ k ∧ k < w.heap.size := h.1.lt
def NewX (xs : List (Int × Int)) (w : World) (e : Ending) (w' : World) : Prop := ∃ v, e = .returned v ∧ OX w' w.heap.size v xs ∧ Below w.heap.size w w'

/-- 'make([]Extent, n)'. -/
theorem mk_exts {w : World} {ops : Array Oper} {rest : List Oper} {o : Oper} {a : Act} {Q : Exit → Act → World → Prop} (hgd : o.guard = none) (l c : Operand)
    (hop : o.op = Op.makeSlice 25 l c) (n : Nat) (hl : a.eval l = .int .i64 n) (hc : a.eval c = .int .i64 n) (hn : n ≤ 1000000000000)
    (hK : ∀ w', (∃ cs, w'.ownsRow w.heap.size 32 2 (.slice (some ⟨w.heap.size, 0, none⟩) n n) n cs) → Below w.heap.size w w' → wpList Try.prog ops Q rest (a.put o.dst (.slice (some ⟨w.heap.size, 0, none⟩) n n)) w') :
    wpList Try.prog ops Q (o :: rest) a w := by
  obtain ⟨i0, hi0, hz0, hz1, hz2⟩ := info_parts Try.infoX
  refine wpList_make_full w hgd l c 25 hop w.heap.size 32 i0 (.agg #[.int .i64 0, .int .i64 0]) 2 Try.underlying25 hi0 hz0 hz1 .i64 .i64 n n n hl hc rfl rfl (by rw [hz2]; omega) (by simp [maxLen]; omega) (Nat.le_refl _) fun w' h1 h2 => ?_
  exact hK w' ⟨_, h1⟩ ((Below.refl _ _).grown h2 (Nat.le_refl _) (by simp))

theorem toExtent_any (a b : Int) (w : World) : Calls Try.prog 36 #[.agg #[.int .i64 a, .int .i64 b]] w fun e w' => e = .returned (.agg #[.int .i64 a, .int .i64 b]) ∧ Below w.heap.size w w' := by
  go_enter Try.func36, Try.ntmps36
  go_wp2
  refine bodyPost_ret (v := .agg #[.int .i64 a, .int .i64 b]) (by simp [results, Try.results36, go_sem]) rfl ⟨rfl, ?_⟩
  exact (((Below.refl _ _).alloc (Nat.le_refl _) _).alloc (by simp) _).alloc (by simp <;> omega) _

theorem eqExtent_any (a b : Int) (w : World) : Calls Try.prog 37 #[.agg #[.int .i64 a, .int .i64 b], .agg #[.int .i64 a, .int .i64 b]] w fun e w' => e = .returned (.bool true) ∧ Below w.heap.size w w' := by
  go_enter Try.func37, Try.ntmps37
  go_wp2
  go_ret
  exact ⟨rfl, ((Below.refl _ _).alloc (Nat.le_refl _) _).alloc (by simp) _⟩

theorem szExtentS_any (v : Value) (xs : List (Int × Int)) (lo hi : Nat) (w : World) (h : RX w lo hi v xs) : Calls Try.prog 11 #[v, .int .i64 1048576] w fun e w' => e = .returned (.int .i64 (if xs.length ≤ 1048576 then 1048576 - xs.length else -1)) ∧ w = w' := by
  obtain ⟨a, cap, b, off, rfl, q1, q2, -, -⟩ := h.open
  by_cases hx : xs.length ≤ 1048576
  · rw [if_pos hx]
    go_enter Try.func11, Try.ntmps11
    go_wp2
    all_goals (go_ret; exact ⟨rfl, rfl⟩)
  · rw [if_neg hx]
    go_enter Try.func11, Try.ntmps11
    go_wp2
    all_goals (go_ret; exact ⟨rfl, rfl⟩)

set_option maxHeartbeats 400000 in
theorem toExtentS_any (v : Value) (xs : List (Int × Int)) (lo hi : Nat) (w : World) (h : RX w lo hi v xs) (hx : xs.length ≤ 1048576) :
    Calls Try.prog 13 #[v] w (NewX xs w) := by
  obtain ⟨a, cap, b, off, rfl, q1, q2, q3, q4⟩ := h.open
  have hw := h.2
  go_enter Try.func13, Try.ntmps13
  go_wp2_with (refine mk_exts rfl _ _ rfl xs.length rfl rfl (by omega) ?_; rintro w1 ⟨cs, hown⟩ hb1)
  go_wp2
  go_loopw [4] (fun i wr => ∃ (k : Nat) (cs : List Value), k ≤ xs.length ∧ i = .int .i64 k ∧ wr.ownsRow w.heap.size 32 2 (.slice (some ⟨w.heap.size, 0, none⟩) xs.length xs.length) xs.length cs ∧ Below w.heap.size w wr ∧ Upto (k * 2) cs (xc xs))
    (fun i _ => xs.length - (intOf i).toNat)
  case atStart => exact ⟨0, cs, Nat.zero_le _, rfl, hown, hb1, Upto.zero _ _⟩
  case round =>
    clear hown hb1
    obtain ⟨k, cs, hk, rfl, hown, hbr, hup⟩ := hrel
    by_cases hlt : k < xs.length
    · obtain rfl := q3 (by omega)
      have hc : wr.cell? ⟨b, off + k * 2, none⟩ = some (.int .i64 xs[k].1) := cell_later hbr (q4 k hlt).1
      have hc2 : wr.cell? ⟨b, off + k * 2 + 1, none⟩ = some (.int .i64 xs[k].2) := cell_later hbr (q4 k hlt).2
      have HC := Lib.hid (And.intro hown (And.intro hbr hup))
      have hz := hbr.size
      clear hown hbr hup q4
      go_wp2_with fail
      refine (toExtent_any _ _ _).mono ?_
      rintro e w2 ⟨rfl, b2⟩
      have o2 := own_chg HC.out.1 (below_chg b2 fun _ => False) (fun _ _ _ h => h)
      have hl := o2.1
      have hst := (o2.stored (k * 2) (.int .i64 xs[k].1)).1.stored (k * 2 + 1) (.int .i64 xs[k].2)
      have hf := o2.frozenAt (k * 2)
      have hf2 := o2.frozenAt (k * 2 + 1)
      obtain ⟨u, hcu⟩ : ∃ u, w2.cell? ⟨w.heap.size, k * 2, none⟩ = some u := ⟨cs[k * 2]'(by omega), by rw [o2.cellAt (k * 2) (by omega)]; simp <;> omega⟩
      obtain ⟨u2, hcu2⟩ : ∃ u, w2.cell? ⟨w.heap.size, k * 2 + 1, none⟩ = some u := ⟨cs[k * 2 + 1]'(by omega), by rw [o2.cellAt (k * 2 + 1) (by omega)]; simp <;> omega⟩
      have hup := (HC.out.2.2.set (by omega) (.int .i64 xs[k].1) (xc_at xs k hlt).1).set (by simp; omega) (.int .i64 xs[k].2) (xc_at xs k hlt).2
      have hb3 : Below w.heap.size w ((w2.setCell ⟨w.heap.size, k * 2, none⟩ (.int .i64 xs[k].1)).setCell ⟨w.heap.size, k * 2 + 1, none⟩ (.int .i64 xs[k].2)) := ((bup HC.out.2.1 (Nat.le_refl _) b2).setCell (Nat.le_refl _) _).setCell (Nat.le_refl _) _
      have HR := Lib.hid (And.intro hst.1 (And.intro hb3 hup))
      clear o2 hl hst hup hb3 b2
      go_wp2
      go_roundw
      case rel => exact ⟨k + 1, _, by omega, by go_num, HR.out.1, HR.out.2.1, by have := HR.out.2.2; rw [show (k + 1) * 2 = k * 2 + 1 + 1 from by omega]; exact this⟩
      case measure => simp [intOf]; omega
    · have hcs := hup.all (by have := hown.1; omega) (by rw [xc_len]; omega)
      subst hcs
      have HF : Hid (OX wr w.heap.size (.slice (some ⟨w.heap.size, 0, none⟩) xs.length xs.length) xs ∧ Below w.heap.size w wr) := ⟨⟨hown, hw⟩, hbr⟩
      clear hown hup hbr
      go_wp2
      go_ret
      exact ⟨_, rfl, HF.out⟩

set_option maxHeartbeats 1000000 in
theorem eqExtentS_any (v v2 : Value) (xs : List (Int × Int)) (lo hi lo2 hi2 : Nat) (w : World) (h : RX w lo hi v xs) (h2 : RX w lo2 hi2 v2 xs) (hx : xs.length ≤ 1048576) :
    Calls Try.prog 15 #[v, v2] w fun e w' => e = .returned (.bool true) ∧ Below w.heap.size w w' := by
  obtain ⟨a, cap, b, off, rfl, q1, q2, q3, q4⟩ := h.open
  obtain ⟨a', cap', b', off', rfl, r1, r2, r3, r4⟩ := h2.open
  have Q4 := Lib.hid q4
  have R4 := Lib.hid r4
  clear h h2 q4 r4
  go_enter Try.func15, Try.ntmps15
  go_wp2
  go_loopw [5] (fun i wr => ∃ k : Nat, k ≤ xs.length ∧ i = .int .i64 k ∧ Below w.heap.size w wr) (fun i _ => xs.length - (intOf i).toNat)
  case atStart => exact ⟨0, Nat.zero_le _, rfl, Below.refl _ _⟩
  case round =>
    obtain ⟨k, hk, rfl, hbr⟩ := hrel
    have HB := Lib.hid hbr
    clear hbr
    by_cases hlt : k < xs.length
    · obtain rfl := q3 (by omega)
      obtain rfl := r3 (by omega)
      have c1 := cell_later HB.out (Q4.out k hlt).1
      have c2 := cell_later HB.out (Q4.out k hlt).2
      have c3 := cell_later HB.out (R4.out k hlt).1
      have c4 := cell_later HB.out (R4.out k hlt).2
      clear q3 r3
      go_wp2
      go_region_held3 (fun w' => w'.cell? ⟨b, off + k * 2, none⟩ = some (.int .i64 xs[k].1) ∧ w'.cell? ⟨b, off + k * 2 + 1, none⟩ = some (.int .i64 xs[k].2) ∧ w'.cell? ⟨b', off' + k * 2, none⟩ = some (.int .i64 xs[k].1) ∧ w'.cell? ⟨b', off' + k * 2 + 1, none⟩ = some (.int .i64 xs[k].2))
        (first | exact ⟨c1, c2, c3, c4⟩ | exact ⟨cell_later (w := wr.drew) (by assumption) c1, cell_later (w := wr.drew) (by assumption) c2, cell_later (w := wr.drew) (by assumption) c3, cell_later (w := wr.drew) (by assumption) c4⟩)
        (first | (go_at_call 37; refine (eqExtent_any _ _ _).mono ?_; rintro e w2 ⟨rfl, b2⟩))
      have b2' : Below wr.drew.heap.size wr.drew w2 := by assumption
      have HF := Lib.hid (bup HB.out.drew (Nat.le_refl _) b2')
      clear b2'
      go_wp2
      go_roundw
      case rel => exact ⟨k + 1, by omega, by go_num, HF.out⟩
      case measure => simp [intOf]; omega
    · go_wp2
      go_ret
      exact ⟨rfl, HB.out⟩

/-- Every field a number of its own, from k on. -/
def upX (k : Int) (n : Nat) : List (Int × Int) := (List.range n).map fun i : Nat => (k + 2 * (i : Int), k + 2 * (i : Int) + 1)
theorem upX_len (k : Int) (n : Nat) : (upX k n).length = n := by simp [upX]
theorem upX_at (k : Int) (n i : Nat) (h : i < (upX k n).length) : (upX k n)[i] = (k + 2 * (i : Int), k + 2 * (i : Int) + 1) := by simp [upX]

def MarkXPost (v : Value) (lo : Nat) (n : Nat) (k : Int) (w : World) (e : Ending) (w' : World) : Prop :=
  e = .returned (.int .i64 (k + 2 * n)) ∧ w'.ownsRow lo 32 2 v n (xc (upX k n)) ∧ Chg (fun b => v.ownBlock = some b) w w' ∧ w'.heap.size = w.heap.size

set_option maxHeartbeats 1000000 in
theorem markExtentS_any (v : Value) (cs : List Value) (lo n : Nat) (k : Int) (w : World) (h : w.ownsRow lo 32 2 v n cs) (hx : n ≤ 1048576) (hk0 : 0 ≤ k) (hk1 : k ≤ 4503599627370496) :
    Calls Try.prog 24 #[v, .int .i64 k] w (MarkXPost v lo n k w) := by
  rcases h.2 with ⟨rfl, rfl⟩ | ⟨g, cap, cur, rfl, -⟩
  · go_enter Try.func24, Try.ntmps24
    go_wp2
    refine wp_loop_rounds 1 ?_
    rw [rounds_succ]
    go_wp2
    go_ret
    exact ⟨by simp, World.ownsRow_nil _ _ _ _, Chg.refl _ _, rfl⟩
  · go_enter Try.func24, Try.ntmps24
    go_wp2
    go_loopw [1, 5] (fun q i wr => ∃ (j : Nat) (cs : List Value), j ≤ n ∧ i = .int .i64 j ∧ q = .int .i64 (k + 2 * j) ∧ wr.ownsRow lo 32 2 (.slice (some ⟨g, 0, none⟩) n cap) n cs ∧ Chg (fun b => (Value.slice (some ⟨g, 0, none⟩) n cap).ownBlock = some b) w wr ∧ wr.heap.size = w.heap.size ∧ Upto (j * 2) cs (xc (upX k n)))
      (fun _ i _ => n - (intOf i).toNat)
    case atStart => exact ⟨0, cs, Nat.zero_le _, rfl, by simp, h, Chg.refl _ _, rfl, Upto.zero _ _⟩
    case round =>
      clear h
      obtain ⟨j, cs, hj, rfl, rfl, hown, hbr, hsz, hup⟩ := hrel
      by_cases hlt : j < n
      · have hl := hown.1
        have hst := (hown.stored (j * 2) (.int .i64 (k + 2 * j))).1.stored (j * 2 + 1) (.int .i64 (k + 2 * j + 1))
        have hat := xc_at (upX k n) j (by rw [upX_len]; exact hlt)
        rw [upX_at] at hat
        have hu := (hup.set (by omega) (.int .i64 (k + 2 * j)) hat.1).set (by simp; omega) (.int .i64 (k + 2 * j + 1)) hat.2
        have hf := hown.frozenAt (j * 2)
        have hf2 := hown.frozenAt (j * 2 + 1)
        obtain ⟨u, hcu⟩ : ∃ u, wr.cell? ⟨g, j * 2, none⟩ = some u := ⟨cs[j * 2]'(by omega), by rw [hown.cellAt (j * 2) (by omega)]; simp <;> omega⟩
        obtain ⟨u2, hcu2⟩ : ∃ u, wr.cell? ⟨g, j * 2 + 1, none⟩ = some u := ⟨cs[j * 2 + 1]'(by omega), by rw [hown.cellAt (j * 2 + 1) (by omega)]; simp <;> omega⟩
        have hb2 := (hbr.setCell (p := ⟨g, j * 2, none⟩) (.inr rfl) (.int .i64 (k + 2 * j))).setCell (p := ⟨g, j * 2 + 1, none⟩) (.inr rfl) (.int .i64 (k + 2 * j + 1))
        have R := And.intro hst.1 (And.intro hb2 (And.intro (show ((wr.setCell ⟨g, j * 2, none⟩ (.int .i64 (k + 2 * j))).setCell ⟨g, j * 2 + 1, none⟩ (.int .i64 (k + 2 * j + 1))).heap.size = w.heap.size by rw [← hsz]; simp [World.setCell]) hu))
        have HR := Lib.hid R
        clear R hst hu hb2 hown hup hbr hsz hat hl
        go_wp2
        go_roundw
        case rel => exact ⟨j + 1, _, by omega, by go_num, by go_num, HR.out.1, HR.out.2.1, HR.out.2.2.1, by have := HR.out.2.2.2; rw [show (j + 1) * 2 = j * 2 + 1 + 1 from by omega]; exact this⟩
        case measure => simp [intOf]; omega
      · obtain rfl : j = n := by omega
        have hcs := hup.all (by have := hown.1; omega) (by rw [xc_len, upX_len])
        subst hcs
        have HF := Lib.hid (And.intro hown (And.intro hbr hsz))
        clear hown hup hbr hsz
        go_wp2
        go_ret
        exact ⟨rfl, HF.out.1, HF.out.2.1, HF.out.2.2⟩

set_option maxHeartbeats 1000000 in
theorem heldExtentS_any (v : Value) (lo hi n : Nat) (k : Int) (w : World) (h : Reads w lo hi 2 v n (xc (upX k n))) (hx : n ≤ 1048576) (hk0 : 0 ≤ k) (hk1 : k ≤ 4503599627370496) :
    Calls Try.prog 33 #[v, .int .i64 k] w fun e w' => e = .returned (.int .i64 (k + 2 * n)) ∧ w = w' := by
  obtain ⟨hl, a, cap, b, off, rfl, q1, q2, q3, q4⟩ := h
  have Q4 := Lib.hid q4
  clear q4 hl
  go_enter Try.func33, Try.ntmps33
  go_wp2
  go_loop [1, 5] (fun q i => ∃ j : Nat, j ≤ n ∧ i = .int .i64 j ∧ q = .int .i64 (k + 2 * j)) (fun _ i => n - (intOf i).toNat)
  case atStart => exact ⟨0, Nat.zero_le _, rfl, by simp⟩
  case round =>
    obtain ⟨j, hj, rfl, rfl⟩ := hrel
    by_cases hlt : j < n
    · have hat := xc_at (upX k n) j (by rw [upX_len]; exact hlt)
      rw [upX_at] at hat
      have hc := (Q4.out (j * 2) (by omega)).trans hat.1
      have hc2 := (Q4.out (j * 2 + 1) (by omega)).trans hat.2
      rw [← Nat.add_assoc] at hc2
      obtain ⟨rfl, -, -⟩ := q3 (by omega)
      clear q3 hat
      go_wp2
      go_round
      case rel => exact ⟨j + 1, by omega, by go_num, by go_num⟩
      case measure => simp [intOf]; omega
    · obtain rfl : j = n := by omega
      go_wp2
      go_ret
      exact ⟨rfl, rfl⟩

end Go.Proofs.Ytepgakaccgnebaa
