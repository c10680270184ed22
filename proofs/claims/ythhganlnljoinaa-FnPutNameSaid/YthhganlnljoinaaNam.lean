/-
  Words for slices of names, and the walks of the laws' helpers over them.
-/
import Derived.Test.YthhganlnljoinaaTxt
import Derived.Test.YthhganlnljoinaaUpt
import Derived.Test.YthhganlnljoinaaNmp
import Derived.Deep.RegionHeld3
namespace Go.Proofs.Ythhganlnljoinaa
open Go.RowKit

theorem Try.infoN : (Try.prog.info? 33).map (fun i => (i.zero, i.size, i.bytes)) = some (some (.agg #[.string ByteArray.empty, .int .i64 0]), 2, 24) := by kernel_rfl

/-- The cells of names. -/
def nc (xs : List (ByteArray × Int)) : List Value := xs.flatMap fun e => [.string e.1, .int .i64 e.2]
theorem nc_len (xs : List (ByteArray × Int)) : (nc xs).length = xs.length * 2 := by
  induction xs with
  | nil => rfl
  | cons a xs ih => simp only [nc, List.flatMap_cons, List.length_append, List.length_cons, List.length_nil] at ih ⊢; omega
theorem nc_at (xs : List (ByteArray × Int)) (k : Nat) (hk : k < xs.length) : (nc xs)[k * 2]? = some (.string xs[k].1) ∧ (nc xs)[k * 2 + 1]? = some (.int .i64 xs[k].2) := by
  induction xs generalizing k with
  | nil => simp at hk
  | cons a xs ih =>
    cases k with
    | zero => exact ⟨rfl, rfl⟩
    | succ k =>
      have := ih k (by simpa using hk)
      have e : (k + 1) * 2 = k * 2 + 1 + 1 := by omega
      simp only [nc, List.flatMap_cons, List.cons_append, List.nil_append, e, List.getElem?_cons_succ, List.getElem_cons_succ] at this ⊢
      exact this
theorem nc_append (xs ys : List (ByteArray × Int)) : nc (xs ++ ys) = nc xs ++ nc ys := by simp [nc]
theorem nc_one (xs : List (ByteArray × Int)) : ∀ u ∈ nc xs, u.oneCell' = true := by
  intro u hu
  simp only [nc, List.mem_flatMap] at hu
  obtain ⟨e, -, hu⟩ := hu
  simp at hu
  rcases hu with rfl | rfl <;> rfl

/-- A name of Go's. -/
def N64 (e : ByteArray × Int) : Prop := e.1.size ≤ 9223372036854775807 ∧ I64 e.2
def N64s (xs : List (ByteArray × Int)) : Prop := ∀ e ∈ xs, N64 e
/-- The names of a slice. -/
def RN (w : World) (lo hi : Nat) (v : Value) (xs : List (ByteArray × Int)) : Prop := Reads w lo hi 2 v xs.length (nc xs) ∧ N64s xs
theorem RN.below {w w' : World} {lo hi : Nat} {v : Value} {xs : List (ByteArray × Int)} (h : RN w lo hi v xs) (hk : Below w.heap.size w w') : RN w' lo hi v xs := ⟨h.1.below hk, h.2⟩
theorem RN.chg {S : Nat → Prop} {w w' : World} {lo hi : Nat} {v : Value} {xs : List (ByteArray × Int)} (h : RN w lo hi v xs) (hk : Chg S w w') (hs : ∀ b, lo ≤ b → b < hi → ¬ S b) : RN w' lo hi v xs := ⟨h.1.chg hk hs, h.2⟩
theorem RN.open {w : World} {lo hi : Nat} {v : Value} {xs : List (ByteArray × Int)} (h : RN w lo hi v xs) :
    ∃ (a : Option Addr) (cap b off : Nat), v = .slice a xs.length cap ∧ xs.length ≤ cap ∧ cap ≤ 9223372036854775807 ∧
      (0 < xs.length → a = some ⟨b, off, none⟩) ∧ ∀ k (hk : k < xs.length), w.cell? ⟨b, off + k * 2, none⟩ = some (.string xs[k].1) ∧ w.cell? ⟨b, off + k * 2 + 1, none⟩ = some (.int .i64 xs[k].2) := by
  obtain ⟨⟨hl, a, cap, b, off, rfl, h1, h2, h3, h4⟩, hw⟩ := h
  refine ⟨a, cap, b, off, rfl, h1, by simpa [maxLen] using h2, fun hn => (h3 hn).1, fun k hk => ⟨?_, ?_⟩⟩
  · rw [h4 (k * 2) (by omega)]; exact (nc_at xs k hk).1
  · rw [Nat.add_assoc, h4 (k * 2 + 1) (by omega)]; exact (nc_at xs k hk).2

/-- The slice v of names is the call's own. -/
def ON (w : World) (lo : Nat) (v : Value) (xs : List (ByteArray × Int)) : Prop := w.ownsRow lo 33 2 v xs.length (nc xs) ∧ N64s xs
theorem ON.rn {w : World} {lo : Nat} {v : Value} {xs : List (ByteArray × Int)} (h : ON w lo v xs) : RN w lo w.heap.size v xs := ⟨reads_own h.1, h.2⟩
theorem ON.chg {S : Nat → Prop} {w w' : World} {lo : Nat} {v : Value} {xs : List (ByteArray × Int)} (h : ON w lo v xs) (hk : Chg S w w') (hs : ∀ b, lo ≤ b → v.ownBlock = some b → ¬ S b) : ON w' lo v xs :=
  ⟨own_chg h.1 hk hs, h.2⟩
theorem ON.below {w w' : World} {lo : Nat} {v : Value} {xs : List (ByteArray × Int)} (h : ON w lo v xs) (hk : Below w.heap.size w w') : ON w' lo v xs := h.chg (below_chg hk fun _ => False) fun _ _ _ h => h
theorem ON.lt {w : World} {lo : Nat} {v : Value} {xs : List (ByteArray × Int)} (h : ON w lo v xs) : ∀ k, v.ownBlock = some k → lo ≤ k ∧ k < w.heap.size := h.1.lt
theorem ON.wide {w : World} {lo lo' : Nat} {v : Value} {xs : List (ByteArray × Int)} (h : ON w lo v xs) (hl : lo' ≤ lo) : ON w lo' v xs := ⟨own_wide h.1 hl, h.2⟩
theorem on_nil (w : World) (lo : Nat) : ON w lo (.slice none 0 0) [] := ⟨World.ownsRow_nil _ _ _ _, fun _ h => by simp at h⟩
def NewNN (xs : List (ByteArray × Int)) (w : World) (e : Ending) (w' : World) : Prop := ∃ v, e = .returned v ∧ (ON w' w.heap.size v xs ∧ v ≠ .slice none 0 0) ∧ Below w.heap.size w w'
def NewN (xs : List (ByteArray × Int)) (w : World) (e : Ending) (w' : World) : Prop := ∃ v, e = .returned v ∧ ON w' w.heap.size v xs ∧ Below w.heap.size w w'

/-- 'make([]Name, n)'. -/
theorem mk_names {w : World} {ops : Array Oper} {rest : List Oper} {o : Oper} {a : Act} {Q : Exit → Act → World → Prop} (hgd : o.guard = none) (l c : Operand)
    (hop : o.op = Op.makeSlice 25 l c) (n : Nat) (hl : a.eval l = .int .i64 n) (hc : a.eval c = .int .i64 n) (hn : n ≤ 1000000000000)
    (hK : ∀ w', (∃ cs, w'.ownsRow w.heap.size 33 2 (.slice (some ⟨w.heap.size, 0, none⟩) n n) n cs) → Below w.heap.size w w' → wpList Try.prog ops Q rest (a.put o.dst (.slice (some ⟨w.heap.size, 0, none⟩) n n)) w') :
    wpList Try.prog ops Q (o :: rest) a w := by
  obtain ⟨i0, hi0, hz0, hz1, hz2⟩ := info_parts Try.infoN
  refine wpList_make_full w hgd l c 25 hop w.heap.size 33 i0 (.agg #[.string ByteArray.empty, .int .i64 0]) 2 Try.underlying25 hi0 hz0 hz1 .i64 .i64 n n n hl hc rfl rfl (by rw [hz2]; omega) (by simp [maxLen]; omega) (Nat.le_refl _) fun w' h1 h2 => ?_
  exact hK w' ⟨_, h1⟩ ((Below.refl _ _).grown h2 (Nat.le_refl _) (by simp))

theorem toName_any (a : ByteArray) (b : Int) (w : World) : Calls Try.prog 29 #[.agg #[.string a, .int .i64 b]] w fun e w' => e = .returned (.agg #[.string a, .int .i64 b]) ∧ Below w.heap.size w w' := by
  go_enter Try.func29, Try.ntmps29
  go_wp2
  refine bodyPost_ret (v := .agg #[.string a, .int .i64 b]) (by simp [results, Try.results29, go_sem]) rfl ⟨rfl, ?_⟩
  exact (((Below.refl _ _).alloc (Nat.le_refl _) _).alloc (by simp) _).alloc (by simp <;> omega) _

theorem eqName_any (a : ByteArray) (b : Int) (w : World) : Calls Try.prog 37 #[.agg #[.string a, .int .i64 b], .agg #[.string a, .int .i64 b]] w fun e w' => e = .returned (.bool true) ∧ Below w.heap.size w w' := by
  go_enter Try.func37, Try.ntmps37
  go_wp2
  go_ret
  exact ⟨rfl, ((Below.refl _ _).alloc (Nat.le_refl _) _).alloc (by simp) _⟩

/-- How much names weigh. -/
def nsz (xs : List (ByteArray × Int)) : Nat := xs.length + (xs.map fun e => e.1.size).sum

theorem szName_any (a : ByteArray) (b : Int) (left : Int) (w : World) (ha : a.size ≤ 9223372036854775807) (h0 : 0 ≤ left) (h1 : left ≤ 1048576) :
    Calls Try.prog 27 #[.agg #[.string a, .int .i64 b], .int .i64 left] w fun e w' => e = .returned (.int .i64 (if (a.size : Int) ≤ left then left - a.size else -1)) ∧ Below w.heap.size w w' := by
  by_cases hx : (a.size : Int) ≤ left
  · rw [if_pos hx]
    go_enter Try.func27, Try.ntmps27
    go_wp2
    go_ret
    exact ⟨rfl, (Below.refl _ _).alloc (Nat.le_refl _) _⟩
  · rw [if_neg hx]
    go_enter Try.func27, Try.ntmps27
    go_wp2
    go_ret
    exact ⟨rfl, (Below.refl _ _).alloc (Nat.le_refl _) _⟩

theorem nsz_drop (xs : List (ByteArray × Int)) (k : Nat) (hk : k < xs.length) : ((xs.drop k).map fun e => e.1.size).sum = xs[k].1.size + ((xs.drop (k + 1)).map fun e => e.1.size).sum := by
  rw [drop_cons xs k hk, List.map_cons, List.sum_cons]
theorem nsz_end (xs : List (ByteArray × Int)) (k : Nat) (hk : ¬ k < xs.length) : ((xs.drop k).map fun e => e.1.size).sum = 0 := by
  rw [List.drop_of_length_le (by omega)]; rfl

set_option maxHeartbeats 1000000 in
theorem szNameS_any (v : Value) (xs : List (ByteArray × Int)) (lo hi : Nat) (w : World) (h : RN w lo hi v xs) :
    Calls Try.prog 11 #[v, .int .i64 1048576] w fun e w' => e = .returned (.int .i64 (if nsz xs ≤ 1048576 then 1048576 - nsz xs else -1)) ∧ Below w.heap.size w w' := by
  obtain ⟨a, cap, b, off, rfl, q1, q2, q3, q4⟩ := h.open
  have Q4 := Lib.hid q4
  have HW := Lib.hid h.2
  clear h q4
  by_cases hx : xs.length ≤ 1048576
  · generalize hR : (if nsz xs ≤ 1048576 then (1048576 : Int) - nsz xs else -1) = R
    have HR : Hid (R = if ((xs.drop 0).map fun e => e.1.size).sum ≤ 1048576 - xs.length then ((1048576 : Int) - xs.length) - ((xs.drop 0).map fun e => e.1.size).sum else -1) := Lib.hid (by
      rw [← hR, nsz, List.drop_zero]
      split
      · rw [if_pos (by omega)]; omega
      · rw [if_neg (by omega)])
    clear hR
    go_enter Try.func11, Try.ntmps11
    go_wp2
    go_loopw [1, 5] (fun l i wr => ∃ (k m : Nat), k ≤ xs.length ∧ m ≤ 1048576 ∧ i = .int .i64 k ∧ l = .int .i64 m ∧ Below w.heap.size w wr ∧ Hid (R = if ((xs.drop k).map fun e => e.1.size).sum ≤ m then (m : Int) - ((xs.drop k).map fun e => e.1.size).sum else -1)) (fun _ i _ => xs.length - (intOf i).toNat)
    case atStart => exact ⟨0, 1048576 - xs.length, Nat.zero_le _, by omega, rfl, by rw [show (((1048576 - xs.length : Nat) : Nat) : Int) = 1048576 - (xs.length : Int) by omega], Below.refl _ _, Lib.hid (by rw [HR.out, show (((1048576 - xs.length : Nat) : Nat) : Int) = 1048576 - (xs.length : Int) by omega])⟩
    case round =>
      obtain ⟨k, m, hk, hm, rfl, rfl, hbr, H0⟩ := hrel
      clear HR
      have HB := Lib.hid hbr
      clear hbr
      by_cases hlt : k < xs.length
      · obtain rfl := q3 (by omega)
        have c1 := cell_later HB.out (Q4.out k hlt).1
        have c2 := cell_later HB.out (Q4.out k hlt).2
        have hN := HW.out _ (List.getElem_mem hlt)
        have H1 : Hid (R = if xs[k].1.size + ((xs.drop (k + 1)).map fun e => e.1.size).sum ≤ m then (m : Int) - (xs[k].1.size + ((xs.drop (k + 1)).map fun e => e.1.size).sum : Nat) else -1) := Lib.hid (by rw [H0.out, nsz_drop xs k hlt])
        clear q3 H0
        obtain ⟨⟨x, y⟩, hxy⟩ : ∃ e, e = xs[k] := ⟨_, rfl⟩
        rw [← hxy] at c1 c2 hN H1
        clear hxy
        simp only at c1 c2 H1
        have hx9 := hN.1
        simp only at hx9
        by_cases hle : x.size ≤ m
        · have hc := szName_any x y m wr hx9 (by omega) (by omega)
          rw [if_pos (by omega)] at hc
          have HC := Lib.hid hc
          clear hc hN
          go_wp2_with fail
          refine HC.out.mono ?_
          rintro e w2 ⟨rfl, b2⟩
          have HF := Lib.hid (bup HB.out (Nat.le_refl _) b2)
          clear b2
          go_wp2_with fail
          go_roundw
          case rel => exact ⟨k + 1, m - x.size, by omega, by omega, by go_num, by rw [show ((m - x.size : Nat) : Int) = (m : Int) - x.size by omega], HF.out, Lib.hid (by
            rw [H1.out]
            split
            · rw [if_pos (by omega)]; omega
            · rw [if_neg (by omega)])⟩
          case measure => simp [intOf]; omega
        · have hc := szName_any x y m wr hx9 (by omega) (by omega)
          rw [if_neg (by omega)] at hc
          have HC := Lib.hid hc
          clear hc hN
          go_wp2_with fail
          refine HC.out.mono ?_
          rintro e w2 ⟨rfl, b2⟩
          have HF := Lib.hid (bup HB.out (Nat.le_refl _) b2)
          clear b2
          go_wp2_with fail
          go_ret
          exact ⟨ret_int (by rw [H1.out, if_neg (by omega)]), HF.out⟩
      · go_wp2_with fail
        go_ret
        exact ⟨ret_int (by rw [H0.out, nsz_end _ _ hlt]; simp), HB.out⟩
  · have hn : ¬ nsz xs ≤ 1048576 := by unfold nsz; omega
    rw [if_neg hn]
    go_enter Try.func11, Try.ntmps11
    go_wp2
    all_goals (go_ret; exact ⟨rfl, Below.refl _ _⟩)

set_option maxHeartbeats 400000 in
theorem toNameS_nn (v : Value) (xs : List (ByteArray × Int)) (lo hi : Nat) (w : World) (h : RN w lo hi v xs) (hx : xs.length ≤ 1048576) :
    Calls Try.prog 13 #[v] w (NewNN xs w) := by
  obtain ⟨a, cap, b, off, rfl, q1, q2, q3, q4⟩ := h.open
  have hw := Lib.hid h.2
  clear h
  go_enter Try.func13, Try.ntmps13
  go_wp2_with (refine mk_names rfl _ _ rfl xs.length rfl rfl (by omega) ?_; rintro w1 ⟨cs, hown⟩ hb1)
  go_wp2
  go_loopw [4] (fun i wr => ∃ (k : Nat) (cs : List Value), k ≤ xs.length ∧ i = .int .i64 k ∧ wr.ownsRow w.heap.size 33 2 (.slice (some ⟨w.heap.size, 0, none⟩) xs.length xs.length) xs.length cs ∧ Below w.heap.size w wr ∧ Upto (k * 2) cs (nc xs))
    (fun i _ => xs.length - (intOf i).toNat)
  case atStart => exact ⟨0, cs, Nat.zero_le _, rfl, hown, hb1, Upto.zero _ _⟩
  case round =>
    clear hown hb1
    obtain ⟨k, cs, hk, rfl, hown, hbr, hup⟩ := hrel
    by_cases hlt : k < xs.length
    · obtain rfl := q3 (by omega)
      have hc : wr.cell? ⟨b, off + k * 2, none⟩ = some (.string xs[k].1) := cell_later hbr (q4 k hlt).1
      have hc2 : wr.cell? ⟨b, off + k * 2 + 1, none⟩ = some (.int .i64 xs[k].2) := cell_later hbr (q4 k hlt).2
      have HC := Lib.hid (And.intro hown (And.intro hbr hup))
      have hz := hbr.size
      clear hown hbr hup q4
      go_wp2_with fail
      refine (toName_any _ _ _).mono ?_
      rintro e w2 ⟨rfl, b2⟩
      have o2 := own_chg HC.out.1 (below_chg b2 fun _ => False) (fun _ _ _ h => h)
      have hl := o2.1
      have hst := (o2.stored (k * 2) (.string xs[k].1)).1.stored (k * 2 + 1) (.int .i64 xs[k].2)
      have hf := o2.frozenAt (k * 2)
      have hf2 := o2.frozenAt (k * 2 + 1)
      obtain ⟨u, hcu⟩ : ∃ u, w2.cell? ⟨w.heap.size, k * 2, none⟩ = some u := ⟨cs[k * 2]'(by omega), by rw [o2.cellAt (k * 2) (by omega)]; simp <;> omega⟩
      obtain ⟨u2, hcu2⟩ : ∃ u, w2.cell? ⟨w.heap.size, k * 2 + 1, none⟩ = some u := ⟨cs[k * 2 + 1]'(by omega), by rw [o2.cellAt (k * 2 + 1) (by omega)]; simp <;> omega⟩
      have hup := (HC.out.2.2.set (by omega) (.string xs[k].1) (nc_at xs k hlt).1).set (by simp; omega) (.int .i64 xs[k].2) (nc_at xs k hlt).2
      have hb3 : Below w.heap.size w ((w2.setCell ⟨w.heap.size, k * 2, none⟩ (.string xs[k].1)).setCell ⟨w.heap.size, k * 2 + 1, none⟩ (.int .i64 xs[k].2)) := ((bup HC.out.2.1 (Nat.le_refl _) b2).setCell (Nat.le_refl _) _).setCell (Nat.le_refl _) _
      have HR := Lib.hid (And.intro hst.1 (And.intro hb3 hup))
      clear o2 hl hst hup hb3 b2
      go_wp2
      go_roundw
      case rel => exact ⟨k + 1, _, by omega, by go_num, HR.out.1, HR.out.2.1, by have := HR.out.2.2; rw [show (k + 1) * 2 = k * 2 + 1 + 1 from by omega]; exact this⟩
      case measure => simp [intOf]; omega
    · have hcs := hup.all (by have := hown.1; omega) (by rw [nc_len]; omega)
      subst hcs
      have HF : Hid (ON wr w.heap.size (.slice (some ⟨w.heap.size, 0, none⟩) xs.length xs.length) xs ∧ Below w.heap.size w wr) := ⟨⟨hown, hw.out⟩, hbr⟩
      clear hown hup hbr
      go_wp2
      go_ret
      exact ⟨_, rfl, ⟨HF.out.1, by simp⟩, HF.out.2⟩

theorem toNameS_any (v : Value) (xs : List (ByteArray × Int)) (lo hi : Nat) (w : World) (h : RN w lo hi v xs) (hx : xs.length ≤ 1048576) :
    Calls Try.prog 13 #[v] w (NewN xs w) := (toNameS_nn v xs lo hi w h hx).mono fun _ _ ⟨v, h1, h2, h3⟩ => ⟨v, h1, h2.1, h3⟩

set_option maxHeartbeats 1000000 in
theorem eqNameS_any (v v2 : Value) (xs : List (ByteArray × Int)) (lo hi lo2 hi2 : Nat) (w : World) (h : RN w lo hi v xs) (h2 : RN w lo2 hi2 v2 xs) (hx : xs.length ≤ 1048576) :
    Calls Try.prog 15 #[v, v2] w fun e w' => e = .returned (.bool true) ∧ Below w.heap.size w w' := by
  obtain ⟨a, cap, b, off, rfl, q1, q2, q3, q4⟩ := h.open
  obtain ⟨a', cap', b', off', rfl, r1, r2, r3, r4⟩ := h2.open
  have Q4 := Lib.hid q4
  have R4 := Lib.hid r4
  clear h h2 q4 r4
  go_enter Try.func15, Try.ntmps15
  go_wp2
  go_loopw [5] (fun i wr => ∃ k : Nat, k ≤ xs.length ∧ i = .int .i64 k ∧ Below w.heap.size w wr) (fun i _ => xs.length - (intOf i).toNat)
  case atStart => exact ⟨0, Nat.zero_le _, rfl, Below.refl _ _⟩
  case round =>
    obtain ⟨k, hk, rfl, hbr⟩ := hrel
    have HB := Lib.hid hbr
    clear hbr
    by_cases hlt : k < xs.length
    · obtain rfl := q3 (by omega)
      obtain rfl := r3 (by omega)
      have c1 := cell_later HB.out (Q4.out k hlt).1
      have c2 := cell_later HB.out (Q4.out k hlt).2
      have c3 := cell_later HB.out (R4.out k hlt).1
      have c4 := cell_later HB.out (R4.out k hlt).2
      clear q3 r3
      go_wp2
      go_region_held3 (fun w' => w'.cell? ⟨b, off + k * 2, none⟩ = some (.string xs[k].1) ∧ w'.cell? ⟨b, off + k * 2 + 1, none⟩ = some (.int .i64 xs[k].2) ∧ w'.cell? ⟨b', off' + k * 2, none⟩ = some (.string xs[k].1) ∧ w'.cell? ⟨b', off' + k * 2 + 1, none⟩ = some (.int .i64 xs[k].2))
        (first | exact ⟨c1, c2, c3, c4⟩ | exact ⟨cell_later (w := wr.drew) (by assumption) c1, cell_later (w := wr.drew) (by assumption) c2, cell_later (w := wr.drew) (by assumption) c3, cell_later (w := wr.drew) (by assumption) c4⟩)
        (first | (go_at_call 37; refine (eqName_any _ _ _).mono ?_; rintro e w2 ⟨rfl, b2⟩))
      have b2' : Below wr.drew.heap.size wr.drew w2 := by assumption
      have HF := Lib.hid (bup HB.out.drew (Nat.le_refl _) b2')
      clear b2'
      go_wp2
      go_roundw
      case rel => exact ⟨k + 1, by omega, by go_num, HF.out⟩
      case measure => simp [intOf]; omega
    · go_wp2
      go_ret
      exact ⟨rfl, HB.out⟩

end Go.Proofs.Ythhganlnljoinaa
