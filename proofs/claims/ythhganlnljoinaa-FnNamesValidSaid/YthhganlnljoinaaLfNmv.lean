/-
  The walks of the laws FnNamesValid, FnFindName.
-/
import Derived.Test.YthhganlnljoinaaDrn
namespace Go.Proofs.Ythhganlnljoinaa
open Go.RowKit

theorem RN.drop {w : World} {lo hi : Nat} {g off cap m : Nat} {xs : List (ByteArray × Int)} (h : RN w lo hi (.slice (some ⟨g, off, none⟩) xs.length cap) xs) (hm : m ≤ xs.length) :
    RN w lo hi (.slice (some ⟨g, off + m * 2, none⟩) (xs.length - m) (cap - m)) (xs.drop m) := by
  have hl : (xs.drop m).length = xs.length - m := by simp
  have hc := rn_drop h m
  refine ⟨?_, fun x hx => h.2 x (List.mem_of_mem_drop hx)⟩
  rw [hl]
  obtain ⟨⟨h0, a', cap', b, off', he, h1, h2, h3, h4⟩, -⟩ := h
  simp only [Value.slice.injEq] at he
  obtain ⟨ha, -, rfl⟩ := he
  refine ⟨by rw [nc_len, hl], some ⟨g, off + m * 2, none⟩, cap - m, g, off + m * 2, rfl, by omega, by omega, fun hn => ?_, fun j hj => ?_⟩
  · have := h3 (by omega)
    rw [← ha] at this
    simp only [Option.some.injEq, Addr.mk.injEq, and_true] at this
    obtain ⟨⟨rfl, rfl⟩, hlo, hhi⟩ := this
    exact ⟨rfl, hlo, hhi⟩
  · have hj' : j < (nc (xs.drop m)).length := by rw [nc_len, hl]; exact hj
    have := hc j _ (List.getElem?_eq_getElem hj')
    rw [add_plain] at this
    rw [this, List.getElem?_eq_getElem hj']
theorem rn_nil (w : World) (lo hi : Nat) (a : Option Addr) (cap : Nat) (hc : cap ≤ maxLen) : RN w lo hi (.slice a 0 cap) [] := ⟨⟨by simp [nc], a, cap, 0, 0, rfl, Nat.zero_le _, hc, fun h => by simp at h, fun j hj => by simp at hj⟩, fun _ h => by simp at h⟩

/-- A guarded operation that is wanted. -/
theorem wpList_wanted {P : Program} {ops : Array Oper} {Q : Exit → Act → World → Prop} {a : Act} {w : World} {rest : List Oper} {o : Oper} (hw : Region.wanted o (yielded ops a.tmps) = true) (h : o.wp P a w (wpList P ops Q rest) Q) : wpList P ops Q (o :: rest) a w := by
  unfold wpList
  rw [if_pos hw]
  exact .inl h
/-- 'append(out, list...)' under a guard. -/
theorem ap_namesG {w : World} {ops : Array Oper} {rest : List Oper} {o : Oper} {a : Act} {Q : Exit → Act → World → Prop} (hw : Region.wanted o (yielded ops a.tmps) = true) (s x : Operand)
    (ho : o.op = .call { callee := .builtin .append, args := #[s, x], argTypes := #[25, 25] }) (lo : Nat) (v : Value) (xs : List (ByteArray × Int)) (hs : a.eval s = v) (hown : ON w lo v xs)
    (ad : Addr) (m c : Nat) (ys : List (ByteArray × Int)) (hx : a.eval x = .slice (some ad) m c) (hm : ys.length = m) (hr : ∀ j u, (nc ys)[j]? = some u → w.cell? (ad.add j) = some u) (hy : N64s ys)
    (hn : xs.length + m ≤ 1000000000) (hbase : lo ≤ w.heap.size)
    (h : ∀ v' w', ON w' lo v' (xs ++ ys) → Chg (fun k => lo ≤ k) w w' → wpList Try.prog ops Q rest (a.put o.dst v') w') :
    wpList Try.prog ops Q (o :: rest) a w := by
  subst hm
  obtain ⟨i0, hi0, hz0, hz1, hz2⟩ := info_parts Try.infoN
  refine wpList_wanted hw (wp_append_own w s x 25 ho lo 33 i0 (.agg #[.string ByteArray.empty, .int .i64 0]) 2 24 Try.underlying25 hi0 hz0 hz1 hz2 rfl (by decide) v xs.length (nc xs) hs hown.1 ad ys.length c
    (nc ys) hx (nc_len ys) hr (nc_one ys) (by simp [maxLen]; omega) (by omega) hbase fun v' w' h1 h2 h3 => ?_)
  refine h v' w' ⟨?_, ?_⟩ ?_
  · rw [nc_append, List.length_append]; exact h1
  · intro e he
    rcases List.mem_append.1 he with he | he
    · exact hown.2 e he
    · exact hy e he
  · exact (Chg.refl _ w).grown h2 (fun k hk => .inr (hown.1.lt k hk).1)

set_option maxHeartbeats 1000000 in
theorem FnNamesValid_walk (w : World) (v : Value) (bs : List Int) (h : RB w 0 w.heap.size v bs) :
    Calls Try.prog 4 #[v] w fun e w' => e = .returned (.bool true) ∧ Below w.heap.size w w' := by
  have H := Lib.hid h
  obtain ⟨a, cap, b, off, rfl, -⟩ := h.open
  clear h
  by_cases hl : bs.length ≤ 1048576
  · go_enter Try.func4, Try.ntmps4
    go_wp2_with fail
    refine (drawNamesValid _ _ bs H.out).mono ?_
    rintro e w1 ⟨v, xs, rfl, hx, ⟨o1, hnn⟩, b1⟩
    obtain ⟨g, cap1, rfl, g1, g2, g3⟩ := own_shape o1.1 hnn
    have O1 := Lib.hid (And.intro o1 b1)
    clear o1 b1 hnn
    obtain ⟨ok, hok⟩ : ∃ ok, ok = nmVal xs := ⟨_, rfl⟩
    have HOK := Lib.hid hok
    clear hok
    go_wp2_with fail
    refine (implNmv_any _ xs _ _ _ O1.out.1.rn).mono ?_
    rintro e w2 ⟨rfl, b2⟩
    have O2 := Lib.hid (And.intro (O1.out.1.below b2) (bup O1.out.2 (Nat.le_refl _) b2))
    clear b2
    go_wp2_with fail
    refine (specNmv_any _ xs _ _ _ O2.out.1.rn).mono ?_
    rintro e w3 ⟨rfl, b3⟩
    have O3 := Lib.hid (And.intro (O2.out.1.below b3) (bup O2.out.2 (Nat.le_refl _) b3))
    have z3 := O3.out.2.size
    clear b3
    rw [← HOK.out]
    have hbb : (ok != ok) = false := by simp
    cases ok
    · go_wp2_with fail
      refine (alive_any _).mono ?_
      rintro e w' ⟨rfl, rfl⟩
      go_wp2_with fail
      all_goals (go_ret; exact ⟨rfl, O3.out.2⟩)
    · rcases Nat.eq_zero_or_pos xs.length with h0 | hpos
      · have h0' : (((xs.length : Nat) : Int) == 0) = true := by simp [h0]
        go_wp2_with fail
        refine (alive_any _).mono ?_
        rintro e w' ⟨rfl, rfl⟩
        go_wp2_with fail
        all_goals (go_ret; exact ⟨rfl, O3.out.2⟩)
      · have h0' : (((xs.length : Nat) : Int) == 0) = false := by rw [beq_eq_false_iff_ne]; omega
        have hv1 : nmVal (xs.drop 1) = true := nmVal_sub HOK.out.symm (List.drop_sublist _ _)
        obtain ⟨⟨x, y⟩, hxy⟩ : ∃ e, e = xs[0] := ⟨_, rfl⟩
        have hv2 : nmVal ((x, y) :: xs) = false := by
          have e : xs = xs[0] :: xs.drop 1 := by rw [← List.drop_eq_getElem_cons hpos, List.drop_zero]
          rw [hxy]
          have := nmVal_twice xs[0] (xs.drop 1)
          rw [← e] at this
          exact this
        have HXN := Lib.hid (show N64 (x, y) by rw [hxy]; exact O3.out.1.2 _ (List.getElem_mem hpos))
        have c1 := fun wx lo hi a n cap h => implNmv_any (.slice a n cap) (xs.drop 1) lo hi wx h
        rw [hv1] at c1
        have C1 := Lib.hid c1
        have c2 := fun wx v lo hi h => implNmv_any v ((x, y) :: xs) lo hi wx h
        rw [hv2] at c2
        have C2 := Lib.hid c2
        have hc0 := nc_at xs 0 hpos
        rw [← hxy] at hc0
        have HC0 := Lib.hid hc0
        clear hv1 hv2 hxy c1 c2 hc0
        have key : ∀ (w4 : World), Below w3.heap.size w3 w4 → Hid (ON w4 w.heap.size (.slice (some ⟨g, 0, none⟩) xs.length cap1) xs ∧ Below w.heap.size w w4 ∧ w4.cell? ⟨g, 0, none⟩ = some (.string x) ∧ w4.cell? ⟨g, 1, none⟩ = some (.int .i64 y)) := fun w4 b4 => by
          have o4 := O3.out.1.below b4
          exact Lib.hid ⟨o4, bup O3.out.2 (Nat.le_refl _) b4, (o4.1.cellAt 0 (by omega)).trans HC0.out.1, (o4.1.cellAt 1 (by omega)).trans HC0.out.2⟩
        have KEY := Lib.hid key
        clear key
        by_cases hc1 : cap1 = 1
        · subst hc1
          have hl1 : xs.length = 1 := by omega
          have HE := Lib.hid (show xs.drop 1 = [] from List.drop_of_length_le (by omega))
          have R1 := Lib.hid (rn_nil w3 0 0 (some ⟨g, 0, none⟩) 0 (by simp [maxLen]))
          go_wp2_with fail
          refine (C1.out _ _ _ _ _ _ (by rw [HE.out]; exact R1.out)).mono ?_
          rintro e w4 ⟨rfl, b4⟩
          have K := KEY.out _ b4
          obtain ⟨k1, k2⟩ := K.out.2.2
          have z4 := K.out.2.1.size
          have hcells := rn_take (K.out.1.below ((Below.refl _ _).alloc (Nat.le_refl _) (.cells #[.string x, .int .i64 y] 33))).rn xs.length
          rw [List.take_length] at hcells
          have HCE := Lib.hid hcells
          clear b4 hcells
          go_wp2_with (at_builtin; refine ap_namesG (by rfl) _ _ rfl w.heap.size (.slice (some ⟨w4.heap.size, 0, none⟩) 1 1) [(x, y)] rfl ⟨World.ownsRow_lit w4 #[.string x, .int .i64 y] 1 z4 (by decide) rfl, fun e he => by simp only [List.mem_singleton] at he; subst he; exact HXN.out⟩ ⟨g, 0, none⟩ 1 1 xs (by first | rfl | simp [hl1]) hl1 HCE.out K.out.1.2 (by simp) (by simp; omega) ?_; intro v5 w5 o5 d5; have O5 : Hid (ON w5 w.heap.size v5 ((x, y) :: xs) ∧ Below w.heap.size w w5) := Lib.hid ⟨o5, below_own (K.out.2.1.alloc z4 _) (by simp; omega) d5⟩; clear o5 d5)
          refine (C2.out _ _ _ _ O5.out.1.rn).mono ?_
          rintro e w6 ⟨rfl, b6⟩
          have HF := Lib.hid (bup O5.out.2 (Nat.le_refl _) b6)
          clear b6
          go_wp2_with fail
          all_goals (go_ret; exact ⟨rfl, HF.out⟩)
        · have r1 := O3.out.1.rn.drop (m := 1) hpos
          simp only [Nat.zero_add, Nat.one_mul] at r1
          have R1 := Lib.hid r1
          have hc1' : ¬ 1 = cap1 := fun h => hc1 h.symm
          have hi1 : (1 : Int) ≤ ((xs.length : Nat) : Int) := by omega
          clear r1
          go_wp2_with fail
          refine (C1.out _ _ _ _ _ _ R1.out).mono ?_
          rintro e w4 ⟨rfl, b4⟩
          have K := KEY.out _ b4
          obtain ⟨k1, k2⟩ := K.out.2.2
          have z4 := K.out.2.1.size
          have hcells := rn_take (K.out.1.below ((Below.refl _ _).alloc (Nat.le_refl _) (.cells #[.string x, .int .i64 y] 33))).rn xs.length
          rw [List.take_length] at hcells
          have HCE := Lib.hid hcells
          clear b4 hcells
          go_wp2_with (at_builtin; refine ap_namesG (by rfl) _ _ rfl w.heap.size (.slice (some ⟨w4.heap.size, 0, none⟩) 1 1) [(x, y)] rfl ⟨World.ownsRow_lit w4 #[.string x, .int .i64 y] 1 z4 (by decide) rfl, fun e he => by simp only [List.mem_singleton] at he; subst he; exact HXN.out⟩ ⟨g, 0, none⟩ xs.length cap1 xs rfl rfl HCE.out K.out.1.2 (by simp; omega) (by simp; omega) ?_; intro v5 w5 o5 d5; have O5 : Hid (ON w5 w.heap.size v5 ((x, y) :: xs) ∧ Below w.heap.size w w5) := Lib.hid ⟨o5, below_own (K.out.2.1.alloc z4 _) (by simp; omega) d5⟩; clear o5 d5)
          refine (C2.out _ _ _ _ O5.out.1.rn).mono ?_
          rintro e w6 ⟨rfl, b6⟩
          have HF := Lib.hid (bup O5.out.2 (Nat.le_refl _) b6)
          clear b6
          go_wp2_with fail
          all_goals (go_ret; exact ⟨rfl, HF.out⟩)
  · go_enter Try.func4, Try.ntmps4
    go_wp2_with fail
    all_goals (go_ret; exact ⟨rfl, Below.refl _ _⟩)

end Go.Proofs.Ythhganlnljoinaa
