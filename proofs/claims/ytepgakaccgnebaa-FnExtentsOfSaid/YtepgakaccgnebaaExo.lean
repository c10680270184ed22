/-
  ExtentsOf of the program.
-/
import Derived.Test.YtepgakaccgnebaaExp
namespace Go.Proofs.Ytepgakaccgnebaa
open Go.RowKit

theorem xc_snoc (xs : List (Int × Int)) (e : Int × Int) : xc (xs ++ [e]) = xc xs ++ [.int .i64 e.1, .int .i64 e.2] := by simp [xc]
theorem cell_two_new (w : World) (x y : Value) (t : TypeId) : ∀ j u, [x, y][j]? = some u → (w.alloc (.cells #[x, y] t)).cell? ((⟨w.heap.size, 0, none⟩ : Addr).add j) = some u := by
  intro j u hj
  have e : (⟨w.heap.size, 0, none⟩ : Addr).add j = ⟨w.heap.size, j, none⟩ := by unfold Addr.add; split <;> simp_all
  rw [e]
  simp only [World.cell?, heap_alloc_new]
  simpa using hj

/-- 'append(list, Extent{x, y})'. -/
theorem ap1_ext {w : World} {ops : Array Oper} {rest : List Oper} {o : Oper} {a : Act} {Q : Exit → Act → World → Prop} (hgd : o.guard = none) (s x : Operand)
    (ho : o.op = .call { callee := .builtin .append, args := #[s, x], argTypes := #[25, 25] }) (lo : Nat) (v : Value) (xs : List (Int × Int)) (y : Int × Int) (hs : a.eval s = v) (hown : OX w lo v xs)
    (hx : a.eval x = .slice (some ⟨w.heap.size, 0, none⟩) 1 1) (hn : xs.length ≤ 1000000000) (hbase : lo ≤ w.heap.size) (hy : I64 y.1 ∧ I64 y.2)
    (h : ∀ v' w', OX w' lo v' (xs ++ [y]) ∧ v' ≠ .slice none 0 0 → Chg (fun k => lo ≤ k) w w' → wpList Try.prog ops Q rest (a.put o.dst v') w') :
    wpList Try.prog ops Q (o :: rest) a (w.alloc (.cells #[.int .i64 y.1, .int .i64 y.2] 32)) := by
  obtain ⟨i0, hi0, hz0, hz1, hz2⟩ := info_parts Try.infoX
  refine wpList_append_own (w.alloc (.cells #[.int .i64 y.1, .int .i64 y.2] 32)) hgd s x 25 ho lo 32 i0 (.agg #[.int .i64 0, .int .i64 0]) 2 16 Try.underlying25 hi0 hz0 hz1 hz2 rfl (by decide) v xs.length (xc xs) hs (hown.1.alloc _) ⟨w.heap.size, 0, none⟩ 1 1
    [.int .i64 y.1, .int .i64 y.2] hx rfl (cell_two_new _ _ _ _) (by simp [Value.oneCell']) (by simp [maxLen]; omega) (by omega) (by simp; omega) fun v' w' h1 h2 h3 => ?_
  refine h v' w' ⟨⟨?_, ?_⟩, fun e => by simp [e] at h3⟩ ?_
  · rw [xc_snoc]; simpa using h1
  · intro e he
    rcases List.mem_append.1 he with he | he
    · exact hown.2 e he
    · simp at he; subst he; exact hy
  · exact ((Chg.refl _ w).alloc _).grown h2 (fun k hk => .inr (hown.1.lt k hk).1)

/-- 'list[len(list)-1].Many++'. -/
theorem ox_bump {w : World} {lo g cap : Nat} {l : List (Int × Int)} {f m : Int} (h : OX w lo (.slice (some ⟨g, 0, none⟩) (l.length + 1) cap) (l ++ [(f, m)])) (hm : I64 (m + 1)) :
    OX (w.setCell ⟨g, l.length * 2 + 1, none⟩ (.int .i64 (m + 1))) lo (.slice (some ⟨g, 0, none⟩) (l.length + 1) cap) (l ++ [(f, m + 1)]) := by
  have hlen : (l ++ [(f, m)]).length = l.length + 1 := by simp
  have h1 := h.1
  rw [hlen] at h1
  have hst := (h1.stored (l.length * 2 + 1) (.int .i64 (m + 1))).1
  refine ⟨?_, ?_⟩
  · have e : (xc (l ++ [(f, m)])).set (l.length * 2 + 1) (.int .i64 (m + 1)) = xc (l ++ [(f, m + 1)]) := by
      rw [xc_snoc, xc_snoc, List.set_append_right _ _ (by rw [xc_len]; omega), xc_len]
      simp
    rw [e] at hst
    simpa using hst
  · intro e he
    rcases List.mem_append.1 he with he | he
    · exact h.2 e (by simp [he])
    · simp at he; subst he
      exact ⟨(h.2 (f, m) (by simp)).1, hm⟩

/-- What is owned and not empty lies at the head of a block. -/
theorem own_shape1 {w : World} {base : Nat} {e : TypeId} {size : Nat} {v : Value} {n : Nat} {cs : List Value} (h : w.ownsRow base e size v n cs) (hn : 0 < n) :
    ∃ g cap, v = .slice (some ⟨g, 0, none⟩) n cap ∧ base ≤ g ∧ g < w.heap.size ∧ n ≤ cap := by
  rcases h.2 with ⟨rfl, h0⟩ | ⟨g, cap, cur, rfl, hb, hg, hn, _⟩
  · omega
  · exact ⟨g, cap, rfl, hb, (Array.getElem?_eq_some_iff.1 hg).1, hn⟩

def pv (xs : List Int) (k : Nat) : Option Int := if k = 0 then none else some (xs.getD (k - 1) 0)
def OfSt (acc : List (Int × Int)) (k : Nat) : Prop := acc.length ≤ k ∧ (0 < k → ∃ (l : List (Int × Int)) (f m : Int), acc = l ++ [(f, m)] ∧ 0 ≤ m ∧ m ≤ k)
theorem OfSt.snoc {acc : List (Int × Int)} {k : Nat} (h : OfSt acc k) (x : Int) : OfSt (acc ++ [(x, 1)]) (k + 1) := ⟨by have := h.1; simp; omega, fun _ => ⟨acc, x, 1, rfl, by omega, by omega⟩⟩
theorem OfSt.bump {l : List (Int × Int)} {f m : Int} {k : Nat} (h : OfSt (l ++ [(f, m)]) k) (h0 : 0 ≤ m) (hm : m ≤ k) : OfSt (l ++ [(f, m + 1)]) (k + 1) := ⟨by have := h.1; simp at this ⊢; omega, fun _ => ⟨l, f, m + 1, rfl, by omega, by omega⟩⟩
def OfPost (xs : List Int) (w : World) (e : Ending) (w' : World) : Prop := ∃ v, e = .returned (.tuple #[v, .bool (exOf xs).2]) ∧ OX w' w.heap.size v (exOf xs).1 ∧ Below w.heap.size w w'
/-- The state of the program's loop. -/
def OfIn (w : World) (xs : List Int) (R : List (Int × Int) × Bool) (v i : Value) (wr : World) : Prop :=
  ∃ (k : Nat) (acc : List (Int × Int)), k ≤ xs.length ∧ i = .int .i64 k ∧ OX wr w.heap.size v acc ∧ Below w.heap.size w wr ∧ OfSt acc k ∧ finO (iGo acc (pv xs k) (xs.drop k)) = R
theorem iGo_cons (acc : List (Int × Int)) (p : Option Int) (x : Int) (xs : List Int) :
    iGo acc p (x :: xs) = if (p.any fun p => x == w64 (p + 1)) = true then iGo (bump acc) (some x) xs else if acc.length = 8 then none else iGo (acc ++ [(x, 1)]) (some x) xs := rfl
theorem pv_succ (xs : List Int) (k : Nat) (hk : k < xs.length) : pv xs (k + 1) = some xs[k] := by simp [pv, hk]

set_option maxHeartbeats 2000000 in
theorem implOf_any (v : Value) (xs : List Int) (lo hi : Nat) (w : World) (h : RI w lo hi v xs) (hx : xs.length ≤ 1048576) :
    Calls Try.prog 29 #[v] w (OfPost xs w) := by
  obtain ⟨a, cap, b, off, rfl, q1, q2, q3, q4⟩ := h.open
  have Q4 := Lib.hid q4
  have HW := Lib.hid h.2
  clear h q4
  unfold OfPost
  generalize hR : exOf xs = R
  have HR : Hid (finO (iGo [] (pv xs 0) (xs.drop 0)) = R) := Lib.hid (by rw [← hR]; exact iGo_eq xs HW.out)
  clear hR
  go_enter Try.func29, Try.ntmps29
  go_wp2_with fail
  go_loopw [4, 5, 6, 9] (fun v _ _ i wr => OfIn w xs R v i wr) (fun _ _ _ i _ => xs.length - (intOf i).toNat)
  case atStart => exact ⟨0, [], Nat.zero_le _, rfl, ⟨World.ownsRow_nil _ _ _ _, fun _ h => by simp at h⟩, Below.refl _ _, ⟨Nat.le_refl _, fun h => by omega⟩, HR.out⟩
  case round =>
    obtain ⟨wo, rfl⟩ : ∃ wo : World, wo = wr := ⟨_, rfl⟩
    obtain ⟨k, acc, hk, rfl, o0, b0, st, H0⟩ := hrel
    clear HR
    have hz := b0.size
    have O0 := Lib.hid (And.intro o0 (And.intro b0 st))
    have HF := Lib.hid H0
    clear o0 b0 st H0
    by_cases hlt : k < xs.length
    · obtain rfl := q3 (by omega)
      have c1 := cell_later O0.out.2.1 (Q4.out k hlt)
      have H1 := HF.out
      rw [drop_cons xs k hlt, iGo_cons] at H1
      have hxk : I64 xs[k] := HW.out _ (List.getElem_mem hlt)
      have hps := pv_succ xs k hlt
      clear q3 HF
      obtain ⟨x, hxx⟩ : ∃ x, x = xs[k] := ⟨_, rfl⟩
      rw [← hxx] at c1 H1 hxk hps
      have hacck := O0.out.2.2.1
      by_cases hk0 : k = 0
      · have hnil : acc = [] := by cases acc with | nil => rfl | cons _ _ => simp [hk0] at hacck
        subst hnil
        rw [if_neg (by simp [pv, hk0]), if_neg (by simp), ← hps] at H1
        have HF := Lib.hid H1
        have hg : decide (0 < k) = false := by simp; omega
        have HK0 := Lib.hid hk0
        clear H1 hxx hps hk0
        obtain ⟨a4, cap4, b4, off4, he4, g2, g3, -, -⟩ := O0.out.1.rx.open
        subst he4
        simp only [List.length_nil] at *
        go_wp2_with (at_builtin; refine ap1_ext rfl _ _ rfl w.heap.size (.slice a4 0 cap4) [] (x, 1) rfl O0.out.1 rfl (by simp) hz ⟨hxk, by unfold I64; omega⟩ ?_; intro v' w2 o2 d2)
        have HG : Hid (OfIn w xs R v' (.int .i64 ((k : Int) + 1)) w2) := ⟨k + 1, [(x, 1)], by omega, by go_num, o2.1, below_own O0.out.2.1 hz d2, O0.out.2.2.snoc x, HF.out⟩
        clear o2 d2
        go_roundw
        case rel => exact HG.out
        case measure => simp [intOf]; omega
      · obtain ⟨l, f, m, rfl, hm0, hm1⟩ := O0.out.2.2.2 (by omega)
        have hkL : k ≤ 1048576 := by omega
        obtain ⟨p, hp⟩ : ∃ p, p = xs[k - 1]'(by omega) := ⟨_, rfl⟩
        have hpv : pv xs k = some p := by rw [pv, if_neg hk0, hp, List.getD_eq_getElem?_getD]; simp [show k - 1 < xs.length by omega]
        have hpI : I64 p := by rw [hp]; exact HW.out _ (List.getElem_mem _)
        have c0 := cell_later O0.out.2.1 (Q4.out (k - 1) (by omega))
        rw [← hp] at c0
        have hk1 : ((k : Int) - 1).toNat = k - 1 := by omega
        have hkp : 0 < k := by omega
        have hd : (0 : Int) < (k : Int) := by omega
        have hlt1 : k - 1 < xs.length := by omega
        rw [hpv] at H1
        simp only [Option.any_some, bump_snoc] at H1
        obtain ⟨q, hq0⟩ : ∃ q, q = (x == w64 (p + 1)) := ⟨_, rfl⟩
        rw [← hq0] at H1
        obtain ⟨y, hy⟩ : ∃ y, IntKind.i64.wrap (p + 1) = y := ⟨_, rfl⟩
        have hq : (x == y) = q := by rw [hq0, ← hy]; rfl
        rw [← hps] at H1
        clear hp hpv hxx hps hk0 hq0
        have hlen : (l ++ [(f, m)]).length = l.length + 1 := by simp
        obtain ⟨g, cap4, he4, g1, g2, g3⟩ := own_shape1 O0.out.1.1 (by omega)
        rw [hlen] at he4 H1
        subst he4
        have hk9 := O0.out.2.2.1
        rw [hlen] at hk9
        cases q
        · rw [if_neg (by simp)] at H1
          have HF := Lib.hid H1
          clear H1
          clear hm0 hm1 hacck
          by_cases h8 : l.length + 1 = 8
          · have hR1 := Lib.hid (show R = ([], false) by rw [← HF.out, if_pos h8]; rfl)
            go_wp2_with fail
            go_ret2
            exact ⟨_, by rw [hR1.out]; rfl, by rw [hR1.out]; exact ⟨World.ownsRow_nil _ _ _ _, fun _ h => by simp at h⟩, O0.out.2.1⟩
          · have HE : Hid (finO (iGo (l ++ [(f, m)] ++ [(x, 1)]) (pv xs (k + 1)) (xs.drop (k + 1))) = R) := Lib.hid (by rw [← HF.out, if_neg h8])
            clear HF
            go_wp2_with (at_builtin; refine ap1_ext rfl _ _ rfl w.heap.size (.slice (some ⟨g, 0, none⟩) (l.length + 1) cap4) (l ++ [(f, m)]) (x, 1) rfl O0.out.1 rfl (by omega) hz ⟨hxk, by unfold I64; omega⟩ ?_; intro v' w2 o2 d2)
            have HG : Hid (OfIn w xs R v' (.int .i64 ((k : Int) + 1)) w2) := ⟨k + 1, l ++ [(f, m)] ++ [(x, 1)], by omega, by go_num, o2.1, below_own O0.out.2.1 hz d2, O0.out.2.2.snoc x, HE.out⟩
            clear o2 d2
            go_roundw
            case rel => exact HG.out
            case measure => simp [intOf]; omega
        · rw [if_pos rfl] at H1
          have HF := Lib.hid H1
          have c5 := (xc_at (l ++ [(f, m)]) l.length (by simp)).2
          have ho := O0.out.1.1
          rw [hlen] at ho
          rw [← ho.cellAt (l.length * 2 + 1) (by omega)] at c5
          simp only [List.getElem_concat_length] at c5
          have hfr := ho.frozenAt (l.length * 2 + 1)
          have hmI : I64 (m + 1) := by unfold I64; omega
          have hb2 := ox_bump O0.out.1 hmI
          have hb3 := O0.out.2.1.setCell (p := ⟨g, l.length * 2 + 1, none⟩) g1 (.int .i64 (m + 1))
          have HG : Hid (OfIn w xs R (.slice (some ⟨g, 0, none⟩) (l.length + 1) cap4) (.int .i64 ((k : Int) + 1)) (wo.setCell ⟨g, l.length * 2 + 1, none⟩ (.int .i64 (m + 1)))) :=
            ⟨k + 1, l ++ [(f, m + 1)], by omega, by go_num, hb2, hb3, O0.out.2.2.bump hm0 hm1, HF.out⟩
          have hw1 : IntKind.i64.wrap (m + 1) = m + 1 := IntWalk.i64_in _ hmI
          clear H1 ho hb2 hb3 hacck hm0
          go_wp2_with fail
          go_roundw
          case rel => exact HG.out
          case measure => simp [intOf]; omega
    · have hkn : k = xs.length := by omega
      subst hkn
      have H1 := HF.out
      rw [List.drop_length] at H1
      have H2 := Lib.hid (show fin acc = R from H1)
      clear H1 HF
      have hokv : exVal acc = R.2 := by rw [← H2.out, fin]; split <;> simp_all
      by_cases hv : exVal acc = true
      · have hR1 := Lib.hid (show R = (acc, true) by rw [← H2.out, fin, if_pos hv])
        clear H2 hokv
        go_wp2_with fail
        refine (implExv_any _ acc _ _ _ O0.out.1.rx).mono ?_
        rintro e w1 ⟨rfl, b1⟩
        have HF := Lib.hid (And.intro (O0.out.1.below b1) (bup O0.out.2.1 (Nat.le_refl _) b1))
        clear b1
        go_wp2_with fail
        go_ret2
        exact ⟨_, by rw [hR1.out]; rfl, by rw [hR1.out]; exact HF.out.1, HF.out.2⟩
      · have hv' : exVal acc = false := by simpa using hv
        have hR1 := Lib.hid (show R = ([], false) by rw [← H2.out, fin, if_neg hv])
        clear H2 hokv hv
        go_wp2_with fail
        refine (implExv_any _ acc _ _ _ O0.out.1.rx).mono ?_
        rintro e w1 ⟨rfl, b1⟩
        have HF := Lib.hid (bup O0.out.2.1 (Nat.le_refl _) b1)
        clear b1
        go_wp2_with fail
        go_ret2
        exact ⟨_, by rw [hR1.out]; rfl, by rw [hR1.out]; exact ⟨World.ownsRow_nil _ _ _ _, fun _ h => by simp at h⟩, HF.out⟩

end Go.Proofs.Ytepgakaccgnebaa
