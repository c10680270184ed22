/-
  Texts of this claim, laid together: Num, Ints, Nst.
-/
import Derived.BigGuardPart
import Derived.Deep.QuietTactic
import Derived.BigQuiet
import Derived.Test.YtjmofmdcegefgaaQ01
namespace Go.Proofs.Ytjmofmdcegefgaa
open Go.RowKit

theorem l1In_any (n lo hi : Int) (w : World) : Calls Try.prog 56 #[.int .i64 n, .int .i64 lo, .int .i64 hi] w fun e w' => e = .returned (.bool (inB n lo hi)) ∧ w = w' := by
  by_cases h : lo ≤ n
  · by_cases h2 : n ≤ hi
    · rw [inB_yes h h2]
      go_enter Try.func56, Try.ntmps56
      go_wp2
      go_ret
      exact ⟨rfl, rfl⟩
    · rw [inB_no (by omega)]
      go_enter Try.func56, Try.ntmps56
      go_wp2
      go_ret
      exact ⟨rfl, rfl⟩
  · rw [inB_no (by omega)]
    have h' : decide (lo ≤ n) = false := by simp; omega
    go_enter Try.func56, Try.ntmps56
    go_wp2
    go_ret
    exact ⟨rfl, rfl⟩

theorem implVictim_any (u a : Int) (hu : I64 u) (ha : I64 a) (w : World) : Calls Try.prog 55 #[.int .i64 u, .int .i64 a] w fun e w' => e = .returned (.int .i64 (vscore u a)) ∧ w = w' := by
  unfold I64 at hu ha
  by_cases h : 0 ≤ u ∧ u ≤ 4 ∧ 0 ≤ a ∧ a ≤ 1000000
  · rw [vscore, if_pos h]
    obtain ⟨h1, h2, h3, h4⟩ := h
    obtain rfl | rfl | rfl | rfl | rfl : u = 0 ∨ u = 1 ∨ u = 2 ∨ u = 3 ∨ u = 4 := by omega
    all_goals
      go_enter Try.func55, Try.ntmps55
      go_wp2
      all_goals (go_ret; exact ⟨ret_int (by omega), rfl⟩)
  · rw [vscore, if_neg h]
    rcases (show u < 0 ∨ (0 ≤ u ∧ 4 < u) ∨ (0 ≤ u ∧ u ≤ 4 ∧ a < 0) ∨ (0 ≤ u ∧ u ≤ 4 ∧ 0 ≤ a ∧ 1000000 < a) from by omega) with h1 | ⟨h1, h2⟩ | ⟨h1, h2, h3⟩ | ⟨h1, h2, h3, h4⟩
    all_goals
      clear h
      go_enter Try.func55, Try.ntmps55
      go_wp2
      all_goals (go_ret; exact ⟨rfl, rfl⟩)

theorem specVictim_any (u a : Int) (hu : I64 u) (ha : I64 a) (w : World) : Calls Try.prog 57 #[.int .i64 u, .int .i64 a] w fun e w' => e = .returned (.int .i64 (vscore u a)) ∧ w = w' := by
  unfold I64 at hu ha
  by_cases h : 0 ≤ u ∧ u ≤ 4 ∧ 0 ≤ a ∧ a ≤ 1000000
  · rw [vscore, if_pos h]
    obtain ⟨h1, h2, h3, h4⟩ := h
    have b2 := inB_yes h3 h4
    obtain rfl | rfl | rfl | rfl | rfl : u = 0 ∨ u = 1 ∨ u = 2 ∨ u = 3 ∨ u = 4 := by omega
    all_goals
      have b1 := inB_yes h1 h2
      go_enter Try.func57, Try.ntmps57
      go_wp2_with (go_at_call 56; refine (l1In_any _ _ _ _).mono ?_; rintro e w' ⟨rfl, rfl⟩)
      all_goals (go_ret; exact ⟨ret_int (by omega), rfl⟩)
  · rw [vscore, if_neg h]
    by_cases h1 : 0 ≤ u ∧ u ≤ 4
    · have b1 := inB_yes h1.1 h1.2
      have b2 : inB a 0 1000000 = false := inB_no (by omega)
      go_enter Try.func57, Try.ntmps57
      go_wp2_with (go_at_call 56; refine (l1In_any _ _ _ _).mono ?_; rintro e w' ⟨rfl, rfl⟩)
      go_ret
      exact ⟨rfl, rfl⟩
    · have b1 : inB u 0 4 = false := inB_no (by omega)
      go_enter Try.func57, Try.ntmps57
      go_wp2_with (go_at_call 56; refine (l1In_any _ _ _ _).mono ?_; rintro e w' ⟨rfl, rfl⟩)
      go_ret
      exact ⟨rfl, rfl⟩

theorem bitCount10 (w : World) : Calls Try.prog 44 #[.int .i64 10] w fun e w' => e = .returned (.int .i64 2) ∧ w = w' := by
  go_enter Try.func44, Try.ntmps44
  go_wp2
  go_loop [3, 4] (fun m s => (m = .int .i64 0 ∧ s = .int .i64 10) ∨ (m = .int .i64 0 ∧ s = .int .i64 5) ∨ (m = .int .i64 1 ∧ s = .int .i64 2) ∨ (m = .int .i64 1 ∧ s = .int .i64 1) ∨ (m = .int .i64 2 ∧ s = .int .i64 0)) (fun _ s => (intOf s).toNat)
  case atStart => exact .inl ⟨rfl, rfl⟩
  case round =>
    rcases hrel with ⟨rfl, rfl⟩ | ⟨rfl, rfl⟩ | ⟨rfl, rfl⟩ | ⟨rfl, rfl⟩ | ⟨rfl, rfl⟩
    all_goals go_wp2
    all_goals first
      | (go_ret; exact ⟨rfl, rfl⟩)
      | (go_round
         case rel => simp
         case measure => simp [intOf])

theorem bitCountNeg (w : World) : Calls Try.prog 44 #[.int .i64 (-1)] w fun e w' => e = .returned (.int .i64 (-1)) ∧ w = w' := by
  go_enter Try.func44, Try.ntmps44
  go_wp2
  go_ret
  exact ⟨rfl, rfl⟩

theorem alive_any (w : World) : Calls Try.prog 12 #[] w fun e w' => e = .returned (.bool true) ∧ w = w' := by
  go_enter Try.func12, Try.ntmps12
  go_wp2_with fail
  refine (bitCount10 _).mono ?_
  rintro e w' ⟨rfl, rfl⟩
  go_wp2_with fail
  refine (bitCountNeg _).mono ?_
  rintro e w' ⟨rfl, rfl⟩
  go_wp2_with fail
  go_ret
  exact ⟨rfl, rfl⟩

end Go.Proofs.Ytjmofmdcegefgaa

namespace Go.Proofs.Ytjmofmdcegefgaa
open Go.RowKit

theorem Try.infoInt : (Try.prog.info? 3).map (fun i => (i.zero, i.size, i.bytes)) = some (some (.int .i64 0), 1, 8) := by kernel_rfl

/-- The slice v of numbers xs is the call's own: its block is lo or later. -/
def OI (w : World) (lo : Nat) (v : Value) (xs : List Int) : Prop := w.ownsRow lo 3 1 v xs.length (xs.map (Value.int .i64)) ∧ I64s xs
theorem OI.ri {w : World} {lo : Nat} {v : Value} {xs : List Int} (h : OI w lo v xs) : RI w lo w.heap.size v xs := ⟨reads_own h.1, h.2⟩
theorem OI.chg {S : Nat → Prop} {w w' : World} {lo : Nat} {v : Value} {xs : List Int} (h : OI w lo v xs) (hk : Chg S w w') (hs : ∀ b, lo ≤ b → v.ownBlock = some b → ¬ S b) : OI w' lo v xs :=
  ⟨own_chg h.1 hk hs, h.2⟩
theorem OI.below {w w' : World} {lo : Nat} {v : Value} {xs : List Int} (h : OI w lo v xs) (hk : Below w.heap.size w w') : OI w' lo v xs := h.chg (below_chg hk fun _ => False) fun _ _ _ h => h
theorem OI.lt {w : World} {lo : Nat} {v : Value} {xs : List Int} (h : OI w lo v xs) : ∀ k, v.ownBlock = some k → lo ≤ k ∧ k < w.heap.size := h.1.lt

/-- 'append' to a slice of ints of the call's own. -/
theorem ap_ints {w : World} {ops : Array Oper} {rest : List Oper} {o : Oper} {a : Act} {Q : Exit → Act → World → Prop} (hgd : o.guard = none) (s x : Operand)
    (ho : o.op = .call { callee := .builtin .append, args := #[s, x], argTypes := #[31, 31] }) (lo : Nat) (v : Value) (n : Nat) (xs : List Value) (hs : a.eval s = v) (hown : w.ownsRow lo 3 1 v n xs)
    (ad : Addr) (m c : Nat) (news : List Value) (hx : a.eval x = .slice (some ad) m c) (hl : news.length = m) (hnews : ∀ j u, news[j]? = some u → w.cell? (ad.add j) = some u) (h1 : ∀ u ∈ news, u.oneCell' = true)
    (hn : n + m ≤ 1000000000000) (hbase : lo ≤ w.heap.size)
    (h : ∀ v' w', w'.ownsRow lo 3 1 v' (n + m) (xs ++ news) → w.grownBy w' v.ownBlock → (v' = .slice none 0 0 ↔ v = .slice none 0 0 ∧ m = 0) → wpList Try.prog ops Q rest (a.put o.dst v') w') : wpList Try.prog ops Q (o :: rest) a w := by
  obtain ⟨i0, hi0, hz0, hz1, hz2⟩ := info_parts Try.infoInt
  exact wpList_append_own w hgd s x 31 ho lo 3 i0 (.int .i64 0) 1 8 Try.underlying31 hi0 hz0 hz1 hz2 rfl (by decide) v n xs hs hown ad m c news hx (by omega) hnews h1 (by simp [maxLen]; omega) (by omega) hbase h

/-- 'make([]int, n)'. -/
theorem mk_ints {w : World} {ops : Array Oper} {rest : List Oper} {o : Oper} {a : Act} {Q : Exit → Act → World → Prop} (hgd : o.guard = none) (l c : Operand)
    (hop : o.op = Op.makeSlice 31 l c) (n : Nat) (hl : a.eval l = .int .i64 n) (hc : a.eval c = .int .i64 n) (hn : n ≤ 1000000000000)
    (hK : ∀ w', (∃ cs, w'.ownsRow w.heap.size 3 1 (.slice (some ⟨w.heap.size, 0, none⟩) n n) n cs ∧ cs = List.replicate n (.int .i64 0)) → Below w.heap.size w w' → wpList Try.prog ops Q rest (a.put o.dst (.slice (some ⟨w.heap.size, 0, none⟩) n n)) w') :
    wpList Try.prog ops Q (o :: rest) a w := by
  obtain ⟨i0, hi0, hz0, hz1, hz2⟩ := info_parts Try.infoInt
  refine wpList_make_full w hgd l c 31 hop w.heap.size 3 i0 (.int .i64 0) 1 Try.underlying31 hi0 hz0 hz1 .i64 .i64 n n n hl hc rfl rfl (by rw [hz2]; omega) (by simp [maxLen]; omega) (Nat.le_refl _) fun w' h1 h2 => ?_
  exact hK w' ⟨_, h1, by simpa [Value.cells] using toList_madeCells_one (.int .i64 0) n⟩ ((Below.refl _ _).grown h2 (Nat.le_refl _) (by simp))

theorem oi_snoc {w : World} {lo : Nat} {v : Value} {n : Nat} {xs : List Int} {k : Int} (h : w.ownsRow lo 3 1 v (n + 1) (xs.map (Value.int .i64) ++ [.int .i64 k])) (hn : xs.length = n) (hs : I64s xs) (hk : I64 k) : OI w lo v (xs ++ [k]) := by
  subst hn
  refine ⟨by simpa using h, fun x hx => ?_⟩
  rcases List.mem_append.1 hx with hx | hx
  · exact hs x hx
  · simp at hx; subst hx; exact hk

/-- 'append(out, y)' of one int: only out's own block turns. -/
theorem ap1_intS {w : World} {ops : Array Oper} {rest : List Oper} {o : Oper} {a : Act} {Q : Exit → Act → World → Prop} (hgd : o.guard = none) (s x : Operand)
    (ho : o.op = .call { callee := .builtin .append, args := #[s, x], argTypes := #[31, 31] }) (lo : Nat) (v : Value) (xs : List Int) (y : Int) (hs : a.eval s = v) (hown : OI w lo v xs)
    (hx : a.eval x = .slice (some ⟨w.heap.size, 0, none⟩) 1 1) (hn : xs.length ≤ 100000000000) (hbase : lo ≤ w.heap.size) (hy : I64 y)
    (h : ∀ v' w', OI w' lo v' (xs ++ [y]) ∧ v' ≠ .slice none 0 0 → Chg (fun k => v.ownBlock = some k) w w' → wpList Try.prog ops Q rest (a.put o.dst v') w') : wpList Try.prog ops Q (o :: rest) a (w.alloc (.cells #[.int .i64 y] 3)) := by
  refine ap_ints hgd s x ho lo v xs.length (xs.map (Value.int .i64)) hs (hown.1.alloc _) ⟨w.heap.size, 0, none⟩ 1 1 [.int .i64 y] hx rfl (cell_one_new _ _ _) (by simp [Value.oneCell']) (by omega) (by simp; omega) fun v' w' h1 h2 h3 => ?_
  refine h v' w' ⟨oi_snoc h1 rfl hown.2 hy, fun e => by simp [e] at h3⟩ ?_
  exact ((Chg.refl _ w).alloc _).grown h2 (fun k hk => .inr hk)

/-- 'append(out, y)' of one int. -/
theorem ap1_int {w : World} {ops : Array Oper} {rest : List Oper} {o : Oper} {a : Act} {Q : Exit → Act → World → Prop} (hgd : o.guard = none) (s x : Operand)
    (ho : o.op = .call { callee := .builtin .append, args := #[s, x], argTypes := #[31, 31] }) (lo : Nat) (v : Value) (xs : List Int) (y : Int) (hs : a.eval s = v) (hown : OI w lo v xs)
    (hx : a.eval x = .slice (some ⟨w.heap.size, 0, none⟩) 1 1) (hn : xs.length ≤ 100000000000) (hbase : lo ≤ w.heap.size) (hy : I64 y)
    (h : ∀ v' w', OI w' lo v' (xs ++ [y]) ∧ v' ≠ .slice none 0 0 → Chg (fun k => lo ≤ k) w w' → wpList Try.prog ops Q rest (a.put o.dst v') w') : wpList Try.prog ops Q (o :: rest) a (w.alloc (.cells #[.int .i64 y] 3)) :=
  ap1_intS hgd s x ho lo v xs y hs hown hx hn hbase hy fun v' w' h1 h2 => h v' w' h1 (h2.mono fun k _ hk => (hown.lt k hk).1)

/-- A slice of the numbers xs in new memory. -/
def NewI (xs : List Int) (w : World) (e : Ending) (w' : World) : Prop := ∃ v, e = .returned v ∧ OI w' w.heap.size v xs ∧ Below w.heap.size w w'

/-- The first k cells are those of cs'. -/
def Upto (k : Nat) (cs cs' : List Value) : Prop := ∀ i, i < k → cs[i]? = cs'[i]?
theorem Upto.zero (cs cs' : List Value) : Upto 0 cs cs' := fun _ h => absurd h (Nat.not_lt_zero _)
theorem Upto.set {k : Nat} {cs cs' : List Value} (h : Upto k cs cs') (hk : k < cs.length) (u : Value) (hu : cs'[k]? = some u) : Upto (k + 1) (cs.set k u) cs' := by
  intro i hi
  by_cases e : k = i
  · subst e; rw [List.getElem?_set_self hk, hu]
  · rw [List.getElem?_set_ne e]; exact h i (by omega)
theorem Upto.all {k : Nat} {cs cs' : List Value} (h : Upto k cs cs') (h1 : cs.length = k) (h2 : cs'.length = k) : cs = cs' := by
  apply List.ext_getElem?
  intro i
  by_cases hi : i < k
  · exact h i hi
  · rw [List.getElem?_eq_none (by omega), List.getElem?_eq_none (by omega)]



/-- k, k+1, .. : n numbers. -/
def upN (k : Int) (n : Nat) : List Int := (List.range n).map fun i : Nat => k + (i : Int)
theorem upN_len (k : Int) (n : Nat) : (upN k n).length = n := by simp [upN]
theorem upN_at (k : Int) (n i : Nat) (h : i < (upN k n).length) : (upN k n)[i] = k + i := by simp [upN]

def MarkPost (v : Value) (lo : Nat) (n : Nat) (k : Int) (w : World) (e : Ending) (w' : World) : Prop :=
  e = .returned (.int .i64 (k + n)) ∧ w'.ownsRow lo 3 1 v n ((upN k n).map (Value.int .i64)) ∧ Chg (fun b => v.ownBlock = some b) w w' ∧ w'.heap.size = w.heap.size



/-- Two lists of numbers are one. -/
def sameL (xs ys : List Int) : Bool := decide (xs = ys)
theorem sameL_len {xs ys : List Int} (h : xs.length ≠ ys.length) : sameL xs ys = false := by
  simp only [sameL, decide_eq_false_iff_not]; rintro rfl; exact h rfl
theorem sameL_self (xs : List Int) : sameL xs xs = true := by simp [sameL]
theorem drop_eq_split (xs ys : List Int) (k : Nat) (h1 : k < xs.length) (h2 : k < ys.length) : decide (xs.drop k = ys.drop k) = (decide (xs[k] = ys[k]) && decide (xs.drop (k + 1) = ys.drop (k + 1))) := by
  rw [drop_cons xs k h1, drop_cons ys k h2]
  simp only [List.cons.injEq, Bool.decide_and]

set_option maxHeartbeats 400000 in
theorem sameInts_any (v v2 : Value) (xs ys : List Int) (lo hi lo2 hi2 : Nat) (w : World) (h : RI w lo hi v xs) (h2 : RI w lo2 hi2 v2 ys) (hx : xs.length ≤ 1048576) (hy : ys.length ≤ 1048576) :
    Calls Try.prog 35 #[v, v2] w fun e w' => e = .returned (.bool (sameL xs ys)) ∧ Below w.heap.size w w' := by
  obtain ⟨a, cap, b, off, rfl, q1, q2, q3, q4⟩ := h.open
  obtain ⟨a', cap', b', off', rfl, r1, r2, r3, r4⟩ := h2.open
  clear h h2
  by_cases hlen : xs.length = ys.length
  · generalize hR : sameL xs ys = R
    have HR : Hid (R = decide (xs.drop 0 = ys.drop 0)) := Lib.hid (by rw [← hR]; rfl)
    have HL := Lib.hid hlen
    have hne : (((xs.length : Nat) : Int) != ((ys.length : Nat) : Int)) = false := by simp [hlen]
    clear hR hlen
    go_enter Try.func35, Try.ntmps35
    go_wp2
    go_loopw [5] (fun i wr => ∃ (k n : Nat), k ≤ xs.length ∧ i = .int .i64 k ∧ wr = w.drewN n ∧ Hid (R = decide (xs.drop k = ys.drop k))) (fun i _ => xs.length - (intOf i).toNat)
    case atStart => exact ⟨0, 0, Nat.zero_le _, rfl, rfl, HR⟩
    case round =>
      obtain ⟨k, n, hk, rfl, rfl, H⟩ := hrel
      clear HR
      by_cases hlt : k < xs.length
      · have hlt2 : k < ys.length := by have := HL.out; omega
        obtain rfl := q3 (by omega)
        obtain rfl := r3 (by omega)
        have hc := q4 k hlt
        have hc' := r4 k hlt2
        have H2 := Lib.hid (H.out.trans (drop_eq_split xs ys k hlt hlt2))
        clear q4 r4 q3 r3 H
        by_cases he : xs[k] = ys[k]
        · have hb : (xs[k] != ys[k]) = false := by simp [he]
          have HE := Lib.hid he
          clear he
          go_wp2
          go_quiet (fail)
          go_wp2
          go_roundw
          case rel => exact ⟨k + 1, n + nq, by omega, by go_num, by simp, Lib.hid (by rw [H2.out, HE.out]; simp)⟩
          case measure => simp [intOf]; omega
        · have hb : (xs[k] != ys[k]) = true := by simp [he]
          have HE := Lib.hid he
          clear he
          go_wp2
          go_quiet (fail)
          go_wp2
          go_ret
          exact ⟨ret_bool (by rw [H2.out]; simp [HE.out]), by rw [World.drewN_drewN]; exact bdN _ _⟩
      · go_wp2
        go_ret
        exact ⟨ret_bool (by have := HL.out; rw [H.out, List.drop_of_length_le (by omega), List.drop_of_length_le (by omega)]; simp), bdN _ _⟩
  · rw [sameL_len hlen]
    have hne : (((xs.length : Nat) : Int) != ((ys.length : Nat) : Int)) = true := by rw [bne_iff_ne]; omega
    clear hlen
    go_enter Try.func35, Try.ntmps35
    go_wp2
    go_ret
    exact ⟨rfl, Below.refl _ _⟩
end Go.Proofs.Ytjmofmdcegefgaa

namespace Go.Proofs.Ytjmofmdcegefgaa
open Go.RowKit

/-- A kind of row that a call owns. -/
structure RowK (α : Type) where
  own : World → Nat → Value → α → Prop
  chg : ∀ {S : Nat → Prop} {w w' : World} {lo : Nat} {v : Value} {x : α}, own w lo v x → Chg S w w' → (∀ b, lo ≤ b → v.ownBlock = some b → ¬ S b) → own w' lo v x
  lt : ∀ {w : World} {lo : Nat} {v : Value} {x : α}, own w lo v x → ∀ b, v.ownBlock = some b → lo ≤ b ∧ b < w.heap.size
  wide : ∀ {w : World} {lo lo' : Nat} {v : Value} {x : α}, own w lo v x → lo' ≤ lo → own w lo' v x

/-- The rows vs, each the call's own, no two in one block, all ahead of hi. -/
def Inn {α : Type} (R : RowK α) (w : World) (lo hi : Nat) (vs : List Value) (xs : List α) : Prop :=
  vs.length = xs.length ∧ (∀ (k : Nat) (hk : k < xs.length) (u : Value), vs[k]? = some u → R.own w lo u xs[k] ∧ ∀ b, u.ownBlock = some b → b < hi) ∧
  ∀ (j k : Nat) (u u' : Value), j ≠ k → vs[j]? = some u → vs[k]? = some u' → ∀ b, u.ownBlock = some b → u'.ownBlock ≠ some b

theorem Inn.chg {α : Type} {R : RowK α} {S : Nat → Prop} {w w' : World} {lo hi : Nat} {vs : List Value} {xs : List α} (h : Inn R w lo hi vs xs) (hc : Chg S w w') (hs : ∀ b, lo ≤ b → b < hi → ¬ S b) : Inn R w' lo hi vs xs :=
  ⟨h.1, fun k hk u hu => ⟨R.chg (h.2.1 k hk u hu).1 hc fun b hb he => hs b hb ((h.2.1 k hk u hu).2 b he), (h.2.1 k hk u hu).2⟩, h.2.2⟩
/-- A change that meets no row. -/
theorem Inn.chg2 {α : Type} {R : RowK α} {S : Nat → Prop} {w w' : World} {lo hi : Nat} {vs : List Value} {xs : List α} (h : Inn R w lo hi vs xs) (hc : Chg S w w') (hs : ∀ (k : Nat) (u : Value) (b : Nat), vs[k]? = some u → u.ownBlock = some b → ¬ S b) : Inn R w' lo hi vs xs :=
  ⟨h.1, fun k hk u hu => ⟨R.chg (h.2.1 k hk u hu).1 hc fun b _ he => hs k u b hu he, (h.2.1 k hk u hu).2⟩, h.2.2⟩
theorem Inn.mono {α : Type} {R : RowK α} {w : World} {lo hi hi' : Nat} {vs : List Value} {xs : List α} (h : Inn R w lo hi vs xs) (hh : hi ≤ hi') : Inn R w lo hi' vs xs :=
  ⟨h.1, fun k hk u hu => ⟨(h.2.1 k hk u hu).1, fun b hb => by have := (h.2.1 k hk u hu).2 b hb; omega⟩, h.2.2⟩
theorem Inn.wide {α : Type} {R : RowK α} {w : World} {lo lo' hi : Nat} {vs : List Value} {xs : List α} (h : Inn R w lo hi vs xs) (hh : lo' ≤ lo) : Inn R w lo' hi vs xs :=
  ⟨h.1, fun k hk u hu => ⟨R.wide (h.2.1 k hk u hu).1 hh, (h.2.1 k hk u hu).2⟩, h.2.2⟩
theorem Inn.get {α : Type} {R : RowK α} {w : World} {lo hi : Nat} {vs : List Value} {xs : List α} (h : Inn R w lo hi vs xs) (k : Nat) (hk : k < xs.length) : ∃ u, vs[k]? = some u ∧ R.own w lo u xs[k] ∧ ∀ b, u.ownBlock = some b → b < hi := by
  have hk' : k < vs.length := by rw [h.1]; exact hk
  exact ⟨vs[k], by simp [hk'], h.2.1 k hk _ (by simp [hk'])⟩
/-- One row turned, its block alone. -/
theorem Inn.one {α : Type} {R : RowK α} {w w' : World} {lo hi : Nat} {vs : List Value} {xs : List α} (h : Inn R w lo hi vs xs) {f : Nat} {u : Value} {x : α} (hu : vs[f]? = some u) (hc : Chg (fun b => u.ownBlock = some b) w w') (ho : R.own w' lo u x) : Inn R w' lo hi vs (xs.set f x) := by
  refine ⟨by rw [List.length_set]; exact h.1, fun k hk u' hu' => ?_, h.2.2⟩
  rw [List.length_set] at hk
  have hf : f < xs.length := by rw [← h.1]; exact (List.getElem?_eq_some_iff.1 hu).1
  by_cases e : f = k
  · subst e
    rw [hu] at hu'; cases hu'
    rw [List.getElem_set_self]
    exact ⟨ho, (h.2.1 f hk u hu).2⟩
  · rw [List.getElem_set_ne e]
    have := h.2.1 k hk u' hu'
    exact ⟨R.chg this.1 hc fun b _ he hs => h.2.2 f k u u' e hu hu' b hs he, this.2⟩
/-- One row laid anew. -/
theorem Inn.put {α : Type} {R : RowK α} {w : World} {lo hi hi' : Nat} {vs : List Value} {xs : List α} (h : Inn R w lo hi vs xs) (f : Nat) {u : Value} {x : α} (ho : R.own w lo u x) (hb : ∀ b, u.ownBlock = some b → hi ≤ b ∧ b < hi') (hh : hi ≤ hi') : Inn R w lo hi' (vs.set f u) (xs.set f x) := by
  refine ⟨by rw [List.length_set, List.length_set]; exact h.1, fun k hk u' hu' => ?_, fun j k u1 u2 hjk h1 h2 b hb1 hb2 => ?_⟩
  · rw [List.length_set] at hk
    by_cases e : f = k
    · subst e
      rw [List.getElem?_set_self (by rw [h.1]; exact hk)] at hu'
      cases hu'
      rw [List.getElem_set_self]
      exact ⟨ho, fun b he => (hb b he).2⟩
    · rw [List.getElem?_set_ne e] at hu'
      rw [List.getElem_set_ne e]
      have := h.2.1 k hk u' hu'
      exact ⟨this.1, fun b he => by have := this.2 b he; omega⟩
  · have old : ∀ i u3, f ≠ i → (vs.set f u)[i]? = some u3 → vs[i]? = some u3 ∧ ∀ b, u3.ownBlock = some b → b < hi := fun i u3 hne hi3 => by
      rw [List.getElem?_set_ne hne] at hi3
      have hil : i < xs.length := by rw [← h.1]; exact (List.getElem?_eq_some_iff.1 hi3).1
      exact ⟨hi3, (h.2.1 i hil u3 hi3).2⟩
    have new : ∀ u3, (vs.set f u)[f]? = some u3 → u3 = u := fun u3 h3 => by
      have hfl := (List.getElem?_eq_some_iff.1 h3).1
      rw [List.length_set] at hfl
      rw [List.getElem?_set_self hfl] at h3
      exact (Option.some.inj h3).symm
    by_cases e1 : f = j
    · subst e1
      obtain rfl := new u1 h1
      have := (old k u2 hjk h2).2 b hb2
      have := (hb b hb1).1
      omega
    · by_cases e2 : f = k
      · subst e2
        obtain rfl := new u2 h2
        have := (old j u1 e1 h1).2 b hb1
        have := (hb b hb2).1
        omega
      · exact h.2.2 j k u1 u2 hjk (old j u1 e1 h1).1 (old k u2 e2 h2).1 b hb1 hb2
/-- One row more. -/
theorem Inn.snoc {α : Type} {R : RowK α} {w : World} {lo hi hi' : Nat} {vs : List Value} {xs : List α} (h : Inn R w lo hi vs xs) {u : Value} {x : α} (ho : R.own w lo u x) (hb : ∀ b, u.ownBlock = some b → hi ≤ b ∧ b < hi') (hh : hi ≤ hi') : Inn R w lo hi' (vs ++ [u]) (xs ++ [x]) := by
  have hl := h.1
  have old : ∀ i u3, i < vs.length → (vs ++ [u])[i]? = some u3 → vs[i]? = some u3 ∧ ∀ b, u3.ownBlock = some b → b < hi := fun i u3 hi' h3 => by
    rw [List.getElem?_append_left hi'] at h3
    exact ⟨h3, (h.2.1 i (by omega) u3 h3).2⟩
  have new : ∀ i u3, ¬ i < vs.length → (vs ++ [u])[i]? = some u3 → i = vs.length ∧ u3 = u := fun i u3 hi' h3 => by
    have := (List.getElem?_eq_some_iff.1 h3).1
    simp at this
    have e : i = vs.length := by omega
    subst e
    simp at h3
    exact ⟨rfl, h3.symm⟩
  refine ⟨by simp [hl], fun k hk u' hu' => ?_, fun j k u1 u2 hjk h1 h2 b hb1 hb2 => ?_⟩
  · by_cases hkl : k < vs.length
    · obtain ⟨h3, h4⟩ := old k u' hkl hu'
      have hkx : k < xs.length := by omega
      rw [List.getElem_append_left hkx]
      exact ⟨(h.2.1 k hkx u' h3).1, fun b he => by have := h4 b he; omega⟩
    · obtain ⟨rfl, rfl⟩ := new k u' hkl hu'
      rw [List.getElem_append_right (by omega)]
      simp only [hl, Nat.sub_self, List.getElem_cons_zero]
      exact ⟨ho, fun b he => (hb b he).2⟩
  · by_cases e1 : j < vs.length
    · by_cases e2 : k < vs.length
      · exact h.2.2 j k u1 u2 hjk (old j u1 e1 h1).1 (old k u2 e2 h2).1 b hb1 hb2
      · obtain ⟨-, rfl⟩ := new k u2 e2 h2
        have := (old j u1 e1 h1).2 b hb1
        have := (hb b hb2).1
        omega
    · obtain ⟨ej, rfl⟩ := new j u1 e1 h1
      by_cases e2 : k < vs.length
      · have := (old k u2 e2 h2).2 b hb2
        have := (hb b hb1).1
        omega
      · obtain ⟨ek, -⟩ := new k u2 e2 h2
        omega
theorem Inn.nil {α : Type} (R : RowK α) (w : World) (lo hi : Nat) : Inn R w lo hi [] [] := ⟨rfl, fun k hk => by simp at hk, fun j k u u' _ h => by simp at h⟩

/-- Two rows of different kinds lie in different blocks. -/
theorem own_apart {w : World} {b1 b2 : Nat} {e1 e2 : TypeId} {s1 s2 : Nat} {v1 v2 : Value} {n1 n2 : Nat} {c1 c2 : List Value} (h1 : w.ownsRow b1 e1 s1 v1 n1 c1) (h2 : w.ownsRow b2 e2 s2 v2 n2 c2) (hne : e1 ≠ e2) : ∀ b, v1.ownBlock = some b → v2.ownBlock ≠ some b := by
  rcases h1.2 with ⟨rfl, _⟩ | ⟨g, cap, cur, rfl, hb, hg, _⟩
  · intro b hb; simp [Value.ownBlock] at hb
  · intro b hb hb2
    have e : g = b := Option.some.inj hb
    subst e
    rcases h2.2 with ⟨rfl, _⟩ | ⟨g', cap', cur', rfl, hb', hg', _⟩
    · simp [Value.ownBlock] at hb2
    · have e : g' = g := Option.some.inj hb2
      subst e
      rw [hg] at hg'
      simp at hg'
      exact hne hg'.2

/-- Rows of ints. -/
def IntRow : RowK (List Int) where
  own := OI
  chg := fun h hc hs => OI.chg h hc hs
  lt := fun h => OI.lt h
  wide := fun h hl => ⟨own_wide h.1 hl, h.2⟩

end Go.Proofs.Ytjmofmdcegefgaa

