/-
  The walks of the helpers of the laws over lists of numbers: toIntS, eqIntS, markIntS, heldIntS, sameInts.
-/
import Derived.Test.YtpfekeflkmafcaaNum
import Derived.Deep.QuietTactic
import Derived.BigQuiet
namespace Go.Proofs.Ytpfekeflkmafcaa
open Go.RowKit

theorem Try.infoInt : (Try.prog.info? 3).map (fun i => (i.zero, i.size, i.bytes)) = some (some (.int .i64 0), 1, 8) := by kernel_rfl

/-- The slice v of numbers xs is the call's own: its block is lo or later. -/
def OI (w : World) (lo : Nat) (v : Value) (xs : List Int) : Prop := w.ownsRow lo 3 1 v xs.length (xs.map (Value.int .i64)) ∧ I64s xs
theorem OI.ri {w : World} {lo : Nat} {v : Value} {xs : List Int} (h : OI w lo v xs) : RI w lo w.heap.size v xs := ⟨reads_own h.1, h.2⟩
theorem OI.chg {S : Nat → Prop} {w w' : World} {lo : Nat} {v : Value} {xs : List Int} (h : OI w lo v xs) (hk : Chg S w w') (hs : ∀ b, lo ≤ b → v.ownBlock = some b → ¬ S b) : OI w' lo v xs :=
  ⟨own_chg h.1 hk hs, h.2⟩
theorem OI.below {w w' : World} {lo : Nat} {v : Value} {xs : List Int} (h : OI w lo v xs) (hk : Below w.heap.size w w') : OI w' lo v xs := h.chg (below_chg hk fun _ => False) fun _ _ _ h => h
theorem OI.lt {w : World} {lo : Nat} {v : Value} {xs : List Int} (h : OI w lo v xs) : ∀ k, v.ownBlock = some k → lo ≤ k ∧ k < w.heap.size := h.1.lt

/-- 'append' to a slice of ints of the call's own. -/
theorem ap_ints {w : World} {ops : Array Oper} {rest : List Oper} {o : Oper} {a : Act} {Q : Exit → Act → World → Prop} (hgd : o.guard = none) (s x : Operand)
    (ho : o.op = .call { callee := .builtin .append, args := #[s, x], argTypes := #[45, 45] }) (lo : Nat) (v : Value) (n : Nat) (xs : List Value) (hs : a.eval s = v) (hown : w.ownsRow lo 3 1 v n xs)
    (ad : Addr) (m c : Nat) (news : List Value) (hx : a.eval x = .slice (some ad) m c) (hl : news.length = m) (hnews : ∀ j u, news[j]? = some u → w.cell? (ad.add j) = some u) (h1 : ∀ u ∈ news, u.oneCell' = true)
    (hn : n + m ≤ 1000000000000) (hbase : lo ≤ w.heap.size)
    (h : ∀ v' w', w'.ownsRow lo 3 1 v' (n + m) (xs ++ news) → w.grownBy w' v.ownBlock → (v' = .slice none 0 0 ↔ v = .slice none 0 0 ∧ m = 0) → wpList Try.prog ops Q rest (a.put o.dst v') w') : wpList Try.prog ops Q (o :: rest) a w := by
  obtain ⟨i0, hi0, hz0, hz1, hz2⟩ := info_parts Try.infoInt
  exact wpList_append_own w hgd s x 45 ho lo 3 i0 (.int .i64 0) 1 8 Try.underlying45 hi0 hz0 hz1 hz2 rfl (by decide) v n xs hs hown ad m c news hx (by omega) hnews h1 (by simp [maxLen]; omega) (by omega) hbase h

/-- 'make([]int, n)'. -/
theorem mk_ints {w : World} {ops : Array Oper} {rest : List Oper} {o : Oper} {a : Act} {Q : Exit → Act → World → Prop} (hgd : o.guard = none) (l c : Operand)
    (hop : o.op = Op.makeSlice 45 l c) (n : Nat) (hl : a.eval l = .int .i64 n) (hc : a.eval c = .int .i64 n) (hn : n ≤ 1000000000000)
    (hK : ∀ w', (∃ cs, w'.ownsRow w.heap.size 3 1 (.slice (some ⟨w.heap.size, 0, none⟩) n n) n cs ∧ cs = List.replicate n (.int .i64 0)) → Below w.heap.size w w' → wpList Try.prog ops Q rest (a.put o.dst (.slice (some ⟨w.heap.size, 0, none⟩) n n)) w') :
    wpList Try.prog ops Q (o :: rest) a w := by
  obtain ⟨i0, hi0, hz0, hz1, hz2⟩ := info_parts Try.infoInt
  refine wpList_make_full w hgd l c 45 hop w.heap.size 3 i0 (.int .i64 0) 1 Try.underlying45 hi0 hz0 hz1 .i64 .i64 n n n hl hc rfl rfl (by rw [hz2]; omega) (by simp [maxLen]; omega) (Nat.le_refl _) fun w' h1 h2 => ?_
  exact hK w' ⟨_, h1, by simpa [Value.cells] using toList_madeCells_one (.int .i64 0) n⟩ ((Below.refl _ _).grown h2 (Nat.le_refl _) (by simp))

theorem oi_snoc {w : World} {lo : Nat} {v : Value} {n : Nat} {xs : List Int} {k : Int} (h : w.ownsRow lo 3 1 v (n + 1) (xs.map (Value.int .i64) ++ [.int .i64 k])) (hn : xs.length = n) (hs : I64s xs) (hk : I64 k) : OI w lo v (xs ++ [k]) := by
  subst hn
  refine ⟨by simpa using h, fun x hx => ?_⟩
  rcases List.mem_append.1 hx with hx | hx
  · exact hs x hx
  · simp at hx; subst hx; exact hk

/-- 'append(out, y)' of one int: only out's own block turns. -/
theorem ap1_intS {w : World} {ops : Array Oper} {rest : List Oper} {o : Oper} {a : Act} {Q : Exit → Act → World → Prop} (hgd : o.guard = none) (s x : Operand)
    (ho : o.op = .call { callee := .builtin .append, args := #[s, x], argTypes := #[45, 45] }) (lo : Nat) (v : Value) (xs : List Int) (y : Int) (hs : a.eval s = v) (hown : OI w lo v xs)
    (hx : a.eval x = .slice (some ⟨w.heap.size, 0, none⟩) 1 1) (hn : xs.length ≤ 100000000000) (hbase : lo ≤ w.heap.size) (hy : I64 y)
    (h : ∀ v' w', OI w' lo v' (xs ++ [y]) ∧ v' ≠ .slice none 0 0 → Chg (fun k => v.ownBlock = some k) w w' → wpList Try.prog ops Q rest (a.put o.dst v') w') : wpList Try.prog ops Q (o :: rest) a (w.alloc (.cells #[.int .i64 y] 3)) := by
  refine ap_ints hgd s x ho lo v xs.length (xs.map (Value.int .i64)) hs (hown.1.alloc _) ⟨w.heap.size, 0, none⟩ 1 1 [.int .i64 y] hx rfl (cell_one_new _ _ _) (by simp [Value.oneCell']) (by omega) (by simp; omega) fun v' w' h1 h2 h3 => ?_
  refine h v' w' ⟨oi_snoc h1 rfl hown.2 hy, fun e => by simp [e] at h3⟩ ?_
  exact ((Chg.refl _ w).alloc _).grown h2 (fun k hk => .inr hk)

/-- 'append(out, y)' of one int. -/
theorem ap1_int {w : World} {ops : Array Oper} {rest : List Oper} {o : Oper} {a : Act} {Q : Exit → Act → World → Prop} (hgd : o.guard = none) (s x : Operand)
    (ho : o.op = .call { callee := .builtin .append, args := #[s, x], argTypes := #[45, 45] }) (lo : Nat) (v : Value) (xs : List Int) (y : Int) (hs : a.eval s = v) (hown : OI w lo v xs)
    (hx : a.eval x = .slice (some ⟨w.heap.size, 0, none⟩) 1 1) (hn : xs.length ≤ 100000000000) (hbase : lo ≤ w.heap.size) (hy : I64 y)
    (h : ∀ v' w', OI w' lo v' (xs ++ [y]) ∧ v' ≠ .slice none 0 0 → Chg (fun k => lo ≤ k) w w' → wpList Try.prog ops Q rest (a.put o.dst v') w') : wpList Try.prog ops Q (o :: rest) a (w.alloc (.cells #[.int .i64 y] 3)) :=
  ap1_intS hgd s x ho lo v xs y hs hown hx hn hbase hy fun v' w' h1 h2 => h v' w' h1 (h2.mono fun k _ hk => (hown.lt k hk).1)

/-- A slice of the numbers xs in new memory. -/
def NewI (xs : List Int) (w : World) (e : Ending) (w' : World) : Prop := ∃ v, e = .returned v ∧ OI w' w.heap.size v xs ∧ Below w.heap.size w w'

/-- The first k cells are those of cs'. -/
def Upto (k : Nat) (cs cs' : List Value) : Prop := ∀ i, i < k → cs[i]? = cs'[i]?
theorem Upto.zero (cs cs' : List Value) : Upto 0 cs cs' := fun _ h => absurd h (Nat.not_lt_zero _)
theorem Upto.set {k : Nat} {cs cs' : List Value} (h : Upto k cs cs') (hk : k < cs.length) (u : Value) (hu : cs'[k]? = some u) : Upto (k + 1) (cs.set k u) cs' := by
  intro i hi
  by_cases e : k = i
  · subst e; rw [List.getElem?_set_self hk, hu]
  · rw [List.getElem?_set_ne e]; exact h i (by omega)
theorem Upto.all {k : Nat} {cs cs' : List Value} (h : Upto k cs cs') (h1 : cs.length = k) (h2 : cs'.length = k) : cs = cs' := by
  apply List.ext_getElem?
  intro i
  by_cases hi : i < k
  · exact h i hi
  · rw [List.getElem?_eq_none (by omega), List.getElem?_eq_none (by omega)]


set_option maxHeartbeats 400000 in
theorem eqIntS_any (v v2 : Value) (xs : List Int) (lo hi lo2 hi2 : Nat) (w : World) (h : RI w lo hi v xs) (h2 : RI w lo2 hi2 v2 xs) (hx : xs.length ≤ 1048576) :
    Calls Try.prog 47 #[v, v2] w fun e w' => e = .returned (.bool true) ∧ Below w.heap.size w w' := by
  obtain ⟨a, cap, b, off, rfl, q1, q2, q3, q4⟩ := h.open
  obtain ⟨a', cap', b', off', rfl, r1, r2, r3, r4⟩ := h2.open
  clear h h2
  go_enter Try.func47, Try.ntmps47
  go_wp2
  go_loopw [5] (fun i wr => ∃ (k n : Nat), k ≤ xs.length ∧ i = .int .i64 k ∧ wr = w.drewN n) (fun i _ => xs.length - (intOf i).toNat)
  case atStart => exact ⟨0, 0, Nat.zero_le _, rfl, rfl⟩
  case round =>
    obtain ⟨k, n, hk, rfl, rfl⟩ := hrel
    by_cases hlt : k < xs.length
    · obtain rfl := q3 (by omega)
      obtain rfl := r3 (by omega)
      have hc := q4 k hlt
      have hc' := r4 k hlt
      clear q4 r4 q3 r3
      go_wp2
      go_quiet (fail)
      go_wp2
      go_roundw
      case rel => exact ⟨k + 1, n + nq, by omega, by go_num, by simp⟩
      case measure => simp [intOf]; omega
    · go_wp2
      go_ret
      exact ⟨rfl, bdN _ _⟩

/-- k, k+1, .. : n numbers. -/
def upN (k : Int) (n : Nat) : List Int := (List.range n).map fun i : Nat => k + (i : Int)
theorem upN_len (k : Int) (n : Nat) : (upN k n).length = n := by simp [upN]
theorem upN_at (k : Int) (n i : Nat) (h : i < (upN k n).length) : (upN k n)[i] = k + i := by simp [upN]

def MarkPost (v : Value) (lo : Nat) (n : Nat) (k : Int) (w : World) (e : Ending) (w' : World) : Prop :=
  e = .returned (.int .i64 (k + n)) ∧ w'.ownsRow lo 3 1 v n ((upN k n).map (Value.int .i64)) ∧ Chg (fun b => v.ownBlock = some b) w w' ∧ w'.heap.size = w.heap.size

set_option maxHeartbeats 400000 in
theorem markIntS_any (v : Value) (cs : List Value) (lo n : Nat) (k : Int) (w : World) (h : w.ownsRow lo 3 1 v n cs) (hx : n ≤ 1048576) (hk0 : 0 ≤ k) (hk1 : k ≤ 4503599627370496) :
    Calls Try.prog 49 #[v, .int .i64 k] w (MarkPost v lo n k w) := by
  rcases h.2 with ⟨rfl, rfl⟩ | ⟨g, cap, cur, rfl, -⟩
  · go_enter Try.func49, Try.ntmps49
    go_wp2
    refine wp_loop_rounds 1 ?_
    rw [rounds_succ]
    go_wp2
    go_ret
    exact ⟨by simp, World.ownsRow_nil _ _ _ _, Chg.refl _ _, rfl⟩
  · go_enter Try.func49, Try.ntmps49
    go_wp2
    go_loopw [1, 5] (fun q i wr => ∃ (j : Nat) (cs : List Value), j ≤ n ∧ i = .int .i64 j ∧ q = .int .i64 (k + j) ∧ wr.ownsRow lo 3 1 (.slice (some ⟨g, 0, none⟩) n cap) n cs ∧ Chg (fun b => (Value.slice (some ⟨g, 0, none⟩) n cap).ownBlock = some b) w wr ∧ wr.heap.size = w.heap.size ∧ Upto j cs ((upN k n).map (Value.int .i64)))
      (fun _ i _ => n - (intOf i).toNat)
    case atStart => exact ⟨0, cs, Nat.zero_le _, rfl, by simp, h, Chg.refl _ _, rfl, Upto.zero _ _⟩
    case round =>
      clear h
      obtain ⟨j, cs, hj, rfl, rfl, hown, hbr, hsz, hup⟩ := hrel
      by_cases hlt : j < n
      · have hst := hown.stored j (.int .i64 (k + j))
        have hu := hup.set (by have := hown.1; omega) (.int .i64 (k + j)) (by simp [upN, hlt])
        have hf := hown.frozenAt j
        obtain ⟨u, hcu⟩ : ∃ u, wr.cell? ⟨g, j, none⟩ = some u := ⟨cs[j]'(by have := hown.1; omega), by rw [hown.cellAt j (by omega)]; simp [hown.1, hlt]⟩
        have hb2 := hbr.setCell (p := ⟨g, j, none⟩) (.inr rfl) (.int .i64 (k + j))
        have R := And.intro hst.1 (And.intro hb2 (And.intro (show (wr.setCell ⟨g, j, none⟩ (.int .i64 (k + j))).heap.size = w.heap.size by rw [← hsz]; simp [World.setCell]) hu))
        have HR := Lib.hid R
        clear R hst hu hb2 hown hup hbr hsz
        go_wp2
        go_roundw
        case rel => exact ⟨j + 1, _, by omega, by go_num, by go_num, HR.out.1, HR.out.2.1, HR.out.2.2.1, HR.out.2.2.2⟩
        case measure => simp [intOf]; omega
      · obtain rfl : j = n := by omega
        have hcs := hup.all (k := j) (by have := hown.1; omega) (by simp [upN_len])
        subst hcs
        have HF := Lib.hid (And.intro hown (And.intro hbr hsz))
        clear hown hup hbr hsz
        go_wp2
        go_ret
        exact ⟨rfl, HF.out.1, HF.out.2.1, HF.out.2.2⟩

set_option maxHeartbeats 400000 in
theorem heldIntS_any (v : Value) (lo hi n : Nat) (k : Int) (w : World) (h : Reads w lo hi 1 v n ((upN k n).map (Value.int .i64))) (hx : n ≤ 1048576) (hk0 : 0 ≤ k) (hk1 : k ≤ 4503599627370496) :
    Calls Try.prog 50 #[v, .int .i64 k] w fun e w' => e = .returned (.int .i64 (k + n)) ∧ w = w' := by
  obtain ⟨hl, a, cap, b, off, rfl, q1, q2, q3, q4⟩ := h
  go_enter Try.func50, Try.ntmps50
  go_wp2
  go_loop [1, 5] (fun q i => ∃ j : Nat, j ≤ n ∧ i = .int .i64 j ∧ q = .int .i64 (k + j)) (fun _ i => n - (intOf i).toNat)
  case atStart => exact ⟨0, Nat.zero_le _, rfl, by simp⟩
  case round =>
    obtain ⟨j, hj, rfl, rfl⟩ := hrel
    clear hl
    by_cases hlt : j < n
    · have hc : w.cell? ⟨b, off + j, none⟩ = some (.int .i64 (k + j)) := by rw [q4 j (by omega)]; simp [upN, hlt]
      obtain ⟨rfl, -, -⟩ := q3 (by omega)
      clear q4 q3
      go_wp2
      go_round
      case rel => exact ⟨j + 1, by omega, by go_num, by go_num⟩
      case measure => simp [intOf]; omega
    · obtain rfl : j = n := by omega
      go_wp2
      go_ret
      exact ⟨rfl, rfl⟩

/-- Two lists of numbers are one. -/
def sameL (xs ys : List Int) : Bool := decide (xs = ys)
theorem sameL_len {xs ys : List Int} (h : xs.length ≠ ys.length) : sameL xs ys = false := by
  simp only [sameL, decide_eq_false_iff_not]; rintro rfl; exact h rfl
theorem sameL_self (xs : List Int) : sameL xs xs = true := by simp [sameL]
theorem drop_eq_split (xs ys : List Int) (k : Nat) (h1 : k < xs.length) (h2 : k < ys.length) : decide (xs.drop k = ys.drop k) = (decide (xs[k] = ys[k]) && decide (xs.drop (k + 1) = ys.drop (k + 1))) := by
  rw [drop_cons xs k h1, drop_cons ys k h2]
  simp only [List.cons.injEq, Bool.decide_and]

set_option maxHeartbeats 400000 in
theorem sameInts_any (v v2 : Value) (xs ys : List Int) (lo hi lo2 hi2 : Nat) (w : World) (h : RI w lo hi v xs) (h2 : RI w lo2 hi2 v2 ys) (hx : xs.length ≤ 1048576) (hy : ys.length ≤ 1048576) :
    Calls Try.prog 37 #[v, v2] w fun e w' => e = .returned (.bool (sameL xs ys)) ∧ Below w.heap.size w w' := by
  obtain ⟨a, cap, b, off, rfl, q1, q2, q3, q4⟩ := h.open
  obtain ⟨a', cap', b', off', rfl, r1, r2, r3, r4⟩ := h2.open
  clear h h2
  by_cases hlen : xs.length = ys.length
  · generalize hR : sameL xs ys = R
    have HR : Hid (R = decide (xs.drop 0 = ys.drop 0)) := Lib.hid (by rw [← hR]; rfl)
    have HL := Lib.hid hlen
    have hne : (((xs.length : Nat) : Int) != ((ys.length : Nat) : Int)) = false := by simp [hlen]
    clear hR hlen
    go_enter Try.func37, Try.ntmps37
    go_wp2
    go_loopw [5] (fun i wr => ∃ (k n : Nat), k ≤ xs.length ∧ i = .int .i64 k ∧ wr = w.drewN n ∧ Hid (R = decide (xs.drop k = ys.drop k))) (fun i _ => xs.length - (intOf i).toNat)
    case atStart => exact ⟨0, 0, Nat.zero_le _, rfl, rfl, HR⟩
    case round =>
      obtain ⟨k, n, hk, rfl, rfl, H⟩ := hrel
      clear HR
      by_cases hlt : k < xs.length
      · have hlt2 : k < ys.length := by have := HL.out; omega
        obtain rfl := q3 (by omega)
        obtain rfl := r3 (by omega)
        have hc := q4 k hlt
        have hc' := r4 k hlt2
        have H2 := Lib.hid (H.out.trans (drop_eq_split xs ys k hlt hlt2))
        clear q4 r4 q3 r3 H
        by_cases he : xs[k] = ys[k]
        · have hb : (xs[k] != ys[k]) = false := by simp [he]
          have HE := Lib.hid he
          clear he
          go_wp2
          go_quiet (fail)
          go_wp2
          go_roundw
          case rel => exact ⟨k + 1, n + nq, by omega, by go_num, by simp, Lib.hid (by rw [H2.out, HE.out]; simp)⟩
          case measure => simp [intOf]; omega
        · have hb : (xs[k] != ys[k]) = true := by simp [he]
          have HE := Lib.hid he
          clear he
          go_wp2
          go_quiet (fail)
          go_wp2
          go_ret
          exact ⟨ret_bool (by rw [H2.out]; simp [HE.out]), by rw [World.drewN_drewN]; exact bdN _ _⟩
      · go_wp2
        go_ret
        exact ⟨ret_bool (by have := HL.out; rw [H.out, List.drop_of_length_le (by omega), List.drop_of_length_le (by omega)]; simp), bdN _ _⟩
  · rw [sameL_len hlen]
    have hne : (((xs.length : Nat) : Int) != ((ys.length : Nat) : Int)) = true := by rw [bne_iff_ne]; omega
    clear hlen
    go_enter Try.func37, Try.ntmps37
    go_wp2
    go_ret
    exact ⟨rfl, Below.refl _ _⟩
end Go.Proofs.Ytpfekeflkmafcaa
